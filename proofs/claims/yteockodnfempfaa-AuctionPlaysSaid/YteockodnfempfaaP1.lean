/- A move in a region that leaves its order open may come whenever. Conditions: those named in each theorem. -/
import Derived.WalkKit
import Derived.WalkSpells
import Derived.WalkLawsBesides
import Derived.Lib.Hide
import Derived.Deep.QuietTactic
import Derived.BigQuiet
import Derived.StillTailTactics
import Derived.Sort.LotA
import Derived.Carry
import Derived.Maps.RangeRun
import Derived.Maps.RangeWalk
import Derived.Maps.AppendAt
import Derived.Deep.AppendLies
/- Values of Go structs as Lean values: typed readings of memory, and the runs of single operations over them. Conditions: those named in each theorem. -/
namespace Go.Gv
open Go Go.RowKit
set_option linter.unusedSectionVars false
set_option linter.unusedSimpArgs false

/-- The world has the cells cs from a on. -/
def At (w : World) (a : Addr) (cs : List Value) : Prop := ∀ j v, cs[j]? = some v → w.cell? (a.add j) = some v

/-- A type of Lean's whose values are written as a row of cells. -/
class Enc (α : Type) where
  n : Nat
  enc : α → List Value
  pos : 0 < n
  len : ∀ x, (enc x).length = n
  one : ∀ x, ∀ u ∈ enc x, u.oneCell' = true
  inj : ∀ x y, enc x = enc y → x = y

theorem add_add (a : Addr) (i j : Nat) : (a.add i).add j = a.add (i + j) := by
  unfold Addr.add
  by_cases hi : i = 0 <;> by_cases hj : j = 0 <;> simp [hi, hj, Nat.add_assoc]
@[go_sem] theorem add_block (a : Addr) (n : Nat) : (a.add n).block = a.block := by unfold Addr.add; split <;> rfl

theorem At.block_lt {w : World} {a : Addr} {cs : List Value} (h : At w a cs) (hl : 0 < cs.length) : a.block < w.heap.size := by
  have := h 0 cs[0] (List.getElem?_eq_getElem hl)
  have := World.block_lt_of_cell? w _ this
  rwa [add_block] at this

theorem At.keep {w w' : World} {a : Addr} {cs : List Value} (h : At w a cs) (hk : w'.heap[a.block]? = w.heap[a.block]?) : At w' a cs := by
  intro j v hv
  rw [World.cell?_of_block (w := w) (by rw [add_block]; exact hk)]
  exact h j v hv

theorem At.sub {w : World} {a : Addr} {cs ds : List Value} (h : At w a cs) (k : Nat) (hd : ∀ j v, ds[j]? = some v → cs[k + j]? = some v) : At w (a.add k) ds := by
  intro j v hv
  rw [add_add]
  exact h _ _ (hd j v hv)

theorem At.unique {w : World} {a : Addr} {cs ds : List Value} (h : At w a cs) (h' : At w a ds) (hl : cs.length = ds.length) : cs = ds := by
  apply List.ext_getElem?
  intro j
  cases hc : cs[j]? with
  | none =>
    have : cs.length ≤ j := by simpa using hc
    exact (List.getElem?_eq_none (by omega)).symm
  | some v =>
    have hj : j < cs.length := (List.getElem?_eq_some_iff.1 hc).1
    have hd : ds[j]? = some (ds[j]'(by omega)) := List.getElem?_eq_getElem (by omega)
    have e1 := h j v hc
    have e2 := h' j _ hd
    rw [e1] at e2
    rw [hd]; exact e2

open Classical in
/-- The value of the type α at a, if there is one. -/
noncomputable def get? (α : Type) [Enc α] (w : World) (a : Addr) : Option α :=
  if h : ∃ x : α, At w a (Enc.enc x) then some h.choose else none

section
variable {α : Type} [Enc α] {w w' : World} {a : Addr} {x : α}
theorem get?_iff : get? α w a = some x ↔ At w a (Enc.enc x) := by
  unfold get?
  constructor
  · intro h
    split at h
    · rename_i hx; have := hx.choose_spec; injection h with h; rwa [h] at this
    · cases h
  · intro h
    have hx : ∃ x : α, At w a (Enc.enc x) := ⟨x, h⟩
    rw [dif_pos hx]
    have h2 := hx.choose_spec
    have := Enc.inj _ _ (At.unique h2 h (by rw [Enc.len, Enc.len]))
    rw [this]
theorem get?_keep (hk : w'.heap[a.block]? = w.heap[a.block]?) : get? α w' a = get? α w a := by
  have hiff : ∀ x : α, At w' a (Enc.enc x) ↔ At w a (Enc.enc x) := fun x => ⟨fun h => h.keep hk.symm, fun h => h.keep hk⟩
  have : ∀ y : α, get? α w' a = some y ↔ get? α w a = some y := fun y => by rw [get?_iff, get?_iff, hiff]
  cases h : get? α w a with
  | some y => exact (this y).2 h
  | none =>
    cases h' : get? α w' a with
    | none => rfl
    | some y => have := (this y).1 h'; rw [h] at this; cases this
theorem get?_lt (h : get? α w a = some x) : a.block < w.heap.size := (get?_iff.1 h).block_lt (by rw [Enc.len]; exact Enc.pos (α := α))
@[go_sem] theorem get?_alloc_lt (o : Obj) (h : a.block < w.heap.size) : get? α (w.alloc o) a = get? α w a := get?_keep (Below.heap_alloc _ _ _ h)
theorem get?_alloc (o : Obj) (h : get? α w a = some x) : get? α (w.alloc o) a = some x := (get?_alloc_lt o (get?_lt h)).trans h
@[go_sem, simp] theorem get?_drew : get? α w.drew a = get? α w a := get?_keep rfl
@[go_sem, simp] theorem get?_drewN (n : Nat) : get? α (w.drewN n) a = get? α w a := get?_keep rfl
theorem get?_below {B : Nat} (hb : Below B w w') (ha : a.block < B) : get? α w' a = get? α w a := get?_keep (hb.block _ ha)
theorem get?_setCell (p : Addr) (u : Value) (h : a.block ≠ p.block) : get? α (w.setCell p u) a = get? α w a := get?_keep (Below.heap_setCell _ _ _ _ h)
theorem get?_new (t : TypeId) (x : α) : get? α (w.alloc (.cells (Enc.enc x).toArray t)) ⟨w.heap.size, 0, none⟩ = some x := by
  rw [get?_iff]
  intro j v hv
  have : (⟨w.heap.size, 0, none⟩ : Addr).add j = ⟨w.heap.size, j, none⟩ := by unfold Addr.add; split <;> simp_all
  rw [this]
  simp [hv]
end

/-- A slice's value (address, length, capacity) reads as the list xs of values of α, all of it below block B. -/
def Sl (α : Type) [Enc α] (w : World) (B : Nat) (A : Option Addr) (len : Nat) (xs : List α) : Prop :=
  xs.length = len ∧ (0 < len → ∃ ad, A = some ad ∧ ad.block < B ∧ ∀ k x, xs[k]? = some x → get? α w (ad.add (k * Enc.n α)) = some x)

section
variable {α : Type} [Enc α] {w w' : World} {B B' : Nat} {A : Option Addr} {len : Nat} {xs : List α}
theorem Sl.nil : Sl α w B A 0 [] := ⟨rfl, fun h => by omega⟩
theorem Sl.at_ (h : Sl α w B A len xs) {k : Nat} (hk : k < len) : ∃ ad x, A = some ad ∧ ad.block < B ∧ xs[k]? = some x ∧ get? α w (ad.add (k * Enc.n α)) = some x := by
  obtain ⟨ad, rfl, hb, hg⟩ := h.2 (by omega)
  have hl := h.1
  exact ⟨ad, xs[k]'(by omega), rfl, hb, List.getElem?_eq_getElem (by omega), hg k _ (List.getElem?_eq_getElem (by omega))⟩
theorem Sl.below (h : Sl α w B A len xs) (hb : Below B w w') : Sl α w' B A len xs :=
  ⟨h.1, fun hn => by
    obtain ⟨ad, e, hB, hc⟩ := h.2 hn
    exact ⟨ad, e, hB, fun k x hx => (get?_below hb (by rw [add_block]; exact hB)).trans (hc k x hx)⟩⟩
theorem Sl.more (h : Sl α w B A len xs) (hB : B ≤ B') : Sl α w B' A len xs :=
  ⟨h.1, fun hn => by
    obtain ⟨ad, e, hb, hc⟩ := h.2 hn
    exact ⟨ad, e, by omega, hc⟩⟩
theorem Sl.take (h : Sl α w B A len xs) {k : Nat} (hk : k ≤ len) : Sl α w B A k (xs.take k) := by
  refine ⟨by rw [List.length_take, h.1]; omega, fun hn => ?_⟩
  obtain ⟨ad, e, hb, hc⟩ := h.2 (by omega)
  refine ⟨ad, e, hb, fun j x hx => hc j x ?_⟩
  rw [List.getElem?_take] at hx
  split at hx
  · exact hx
  · cases hx
theorem Sl.drop (h : Sl α w B A len xs) {k : Nat} (hk : k < len) : ∃ ad, A = some ad ∧ Sl α w B (some (ad.add (k * Enc.n α))) (len - k) (xs.drop k) := by
  obtain ⟨ad, e, hb, hc⟩ := h.2 (by omega)
  refine ⟨ad, e, by rw [List.length_drop, h.1], fun _ => ⟨_, rfl, by rw [add_block]; exact hb, fun j x hx => ?_⟩⟩
  rw [add_add, ← Nat.add_mul]
  exact hc _ _ (by rw [← hx, List.getElem?_drop])
theorem Sl.of_own {base e c : Nat} {v : Value} (h : w.ownsRow base e (Enc.n α) v len (xs.flatMap Enc.enc)) (hv : v = .slice A len c) (hl : xs.length = len) : Sl α w w.heap.size A len xs := by
  subst hv
  refine ⟨hl, fun hn => ?_⟩
  rcases h.2 with ⟨_, h0⟩ | ⟨g, cap, cur, hv, _, hh, _, _, hsz, htake⟩
  · omega
  · injection hv with hA _ _
    subst hA
    have hlt : g < w.heap.size := (Array.getElem?_eq_some_iff.1 hh).1
    refine ⟨_, rfl, hlt, fun k x hx => ?_⟩
    rw [get?_iff]
    intro j u hu
    rw [add_add]
    refine h.cells (g := g) rfl _ _ ?_
    have hj : j < Enc.n α := by have := (List.getElem?_eq_some_iff.1 hu).1; rwa [Enc.len] at this
    clear h htake hsz hh hn hl
    induction xs generalizing k with
    | nil => simp at hx
    | cons y ys ih =>
      cases k with
      | zero =>
        simp at hx; subst hx
        simp only [List.flatMap_cons, Nat.zero_mul, Nat.zero_add]
        rw [List.getElem?_append_left (by rw [Enc.len]; exact hj)]; exact hu
      | succ k =>
        simp only [List.flatMap_cons, Nat.add_mul, Nat.one_mul]
        rw [List.getElem?_append_right (by rw [Enc.len]; omega), Enc.len]
        have := ih k (by simpa using hx)
        rw [← this]; congr 1; omega
end


/-! ### Runs of single operations over such values -/
def aggT (P : Program) (t : TypeId) : Bool := match P.underlying t with | some (.struct _) | some (.array _ _) => true | _ => false
def sizeT (P : Program) (t : TypeId) : Nat := match P.info? t with | some i => i.size | none => 0
def zeroT (P : Program) (t : TypeId) : Option Value := (P.info? t).bind (·.zero)

section
variable {P : Program} {t : TypeId}
theorem run_isAgg (h : aggT P t = true) (w : World) : (isAgg t).run P w = .ok true w := by
  unfold aggT at h
  unfold isAgg
  cases hu : P.underlying t with
  | none => simp [hu] at h
  | some d =>
    rw [Sem.run_bind, run_underlying hu w]
    cases d <;> simp_all
theorem run_sizeOf {n : Nat} (h : sizeT P t = n) (hn : 0 < n) (w : World) : (sizeOf t).run P w = .ok n w := by
  unfold sizeT at h
  cases hi : P.info? t with
  | none => simp [hi] at h; omega
  | some i => simp [hi] at h; simp [sizeOf, typeInfo, hi, h]
theorem run_zeroValue {z : Value} (h : zeroT P t = some z) (w : World) : (zeroValue t).run P w = .ok z w := by
  unfold zeroT at h
  cases hi : P.info? t with
  | none => simp [hi] at h
  | some i => simp [hi] at h; simp [zeroValue, typeInfo, hi, h]
variable {α : Type} [Enc α]
theorem run_loadCells_at {w : World} {a : Addr} {cs : List Value} (h : At w a cs) : (loadCells a cs.length).run P w = .ok cs.toArray w := run_loadCells_list w a cs h
theorem run_loadVar_get {w : World} {a : Addr} (ha : aggT P t = true) (hs : sizeT P t = Enc.n α) {x : α} (h : get? α w a = some x) :
    (loadVar t a).run P w = .ok (.agg (Enc.enc x).toArray) w := by
  have hl := run_loadCells_at (P := P) (get?_iff.1 h)
  rw [Enc.len] at hl
  simp [loadVar, Sem.run_bind, run_isAgg ha, run_sizeOf hs Enc.pos, hl]
theorem run_loadAt_get {w : World} {a : Addr} (ha : aggT P t = true) (hs : sizeT P t = Enc.n α) {x : α} (h : get? α w a = some x) :
    (Instr.loadAt t (.pointer (some a))).run P w = .ok (.agg (Enc.enc x).toArray) w := by
  simp [Instr.loadAt, Instr.sureAddr, run_loadVar_get ha hs h]
@[irreducible] def noLoad (P : Program) (t : TypeId) (a : Addr) (w : World) : Result Value := (Instr.loadAt t (.pointer (some a))).run P w
def ofOpt (o : Option Value) (w : World) (r : Result Value) : Result Value := match o with | some v => .ok v w | none => r
@[simp, go_sem] theorem ofOpt_some (v : Value) (w : World) (r : Result Value) : ofOpt (some v) w r = .ok v w := rfl
theorem run_loadAt_opt {w : World} {a : Addr} (ha : aggT P t = true) (hs : sizeT P t = Enc.n α) (val : α → Value) (hv : ∀ x, val x = .agg (Enc.enc x).toArray) :
    (Instr.loadAt t (.pointer (some a))).run P w = ofOpt ((get? α w a).map val) w (noLoad P t a w) := by
  cases h : get? α w a with
  | some x => simp only [run_loadAt_get ha hs h, hv, Option.map_some, ofOpt_some]
  | none => simp only [noLoad, Option.map_none, ofOpt]
/-! The operations at a type of cells, closed to simp. -/
@[irreducible] def gLoad (t : TypeId) (a : Value) : Sem Value := Instr.loadAt t a
@[irreducible] def gStore (t : TypeId) (a x : Value) : Sem Unit := Instr.storeAt t a x
@[irreducible] def gField (t : TypeId) (x : Value) (i : Nat) : Sem Value := Instr.field t x i
@[irreducible] def gBox (t : TypeId) (x : Value) : Sem Value := Instr.box t x
@[irreducible] def gAlloc (t : TypeId) : Sem Value := Instr.alloc t true (.tuple #[])
@[irreducible] def gBuild (t : TypeId) (ps : Array (Nat × Value)) : Sem Value := Instr.build t ps
@[irreducible] def gBuildSlice (t : TypeId) (n : Nat) (ps : Array (Nat × Value)) : Sem Value := Instr.buildSlice t n ps
@[irreducible] def gIndex (t : TypeId) (x i : Value) : Sem Value := Instr.index t x i
@[irreducible] def gBin (op : BinOp) (t : TypeId) (ox oy : Operand) (x y : Value) : Sem Value := do eqGuard op t ox oy x y; binOp op t x y
section
variable (ρ : Operand → Value) (dst : Option Tmp) (x y : Operand) (ty : TypeId) (pos : String) (after : Array Edge) (guard : Option (Nat × Bool)) (t : TypeId)
theorem ex_load : execOp ρ { dst, op := .load t x, type := ty, pos, after, guard } = (do pure (.value (← gLoad t (ρ x)))) := by unfold gLoad; rfl
theorem ex_store : execOp ρ { dst, op := .store t x y, type := ty, pos, after, guard } = (do gStore t (ρ x) (ρ y); pure .skip) := by unfold gStore; rfl
theorem ex_field (i : Nat) : execOp ρ { dst, op := .field t x i, type := ty, pos, after, guard } = (do pure (.value (← gField t (ρ x) i))) := by unfold gField; rfl
theorem ex_box : execOp ρ { dst, op := .box t x, type := ty, pos, after, guard } = (do pure (.value (← gBox t (ρ x)))) := by unfold gBox; rfl
theorem ex_alloc : execOp ρ { dst, op := .alloc t, type := ty, pos, after, guard } = (do pure (.value (← gAlloc t))) := by unfold gAlloc; rfl
theorem ex_build (ps : Array (Nat × Operand)) : execOp ρ { dst, op := .build t ps, type := ty, pos, after, guard } = (do pure (.value (← gBuild t (ps.map fun (i, x) => (i, ρ x))))) := by unfold gBuild; rfl
theorem ex_buildSlice (n : Nat) (ps : Array (Nat × Operand)) : execOp ρ { dst, op := .buildSlice t n ps, type := ty, pos, after, guard } = (do pure (.value (← gBuildSlice t n (ps.map fun (i, x) => (i, ρ x))))) := by unfold gBuildSlice; rfl
theorem ex_index : execOp ρ { dst, op := .index t x y, type := ty, pos, after, guard } = (do pure (.value (← gIndex t (ρ x) (ρ y)))) := by unfold gIndex; rfl
theorem ex_eql (yt : TypeId) : execOp ρ { dst, op := .binOp .eql t x y yt, type := ty, pos, after, guard } = (do pure (.value (← gBin .eql t x y (ρ x) (ρ y)))) := by unfold gBin; rfl
theorem ex_neq (yt : TypeId) : execOp ρ { dst, op := .binOp .neq t x y yt, type := ty, pos, after, guard } = (do pure (.value (← gBin .neq t x y (ρ x) (ρ y)))) := by unfold gBin; rfl
end
/-- A part of a struct's or an array's value, itself a struct or an array. -/
theorem run_part_agg {w : World} {cs ds : List Value} {off : Nat} (ha : aggT P t = true) (hs : sizeT P t = ds.length) (hp : 0 < ds.length)
    (h : (cs.drop off).take ds.length = ds) : (part t cs.toArray off).run P w = .ok (.agg ds.toArray) w := by
  simp only [part, Sem.run_bind, run_isAgg ha, Result.andThen_ok, run_sizeOf hs hp, if_true, Sem.run_pure]
  congr 2
  apply Array.ext'
  simp [List.extract_eq_take_drop, h]
theorem run_isAgg_not (h : aggT P t = false) (hu : (P.underlying t).isSome = true) (w : World) : (isAgg t).run P w = .ok false w := by
  unfold aggT at h
  unfold isAgg
  cases hu : P.underlying t with
  | none => simp_all
  | some d =>
    rw [Sem.run_bind, run_underlying hu w]
    cases d <;> simp_all
theorem run_part_one {w : World} {cs : List Value} {off : Nat} {v : Value} (ha : aggT P t = false) (hu : (P.underlying t).isSome = true) (h : cs[off]? = some v) :
    (part t cs.toArray off).run P w = .ok v w := by
  simp only [part, Sem.run_bind, run_isAgg_not ha hu, Result.andThen_ok]
  simp [h]
theorem run_field_of {w : World} {fs : Array Field} {f : Field} {cs : List Value} {i : Nat} {v : Value} (hu : P.underlying t = some (.struct fs)) (hf : fs[i]? = some f)
    (h : (part f.type cs.toArray f.offset).run P w = .ok v w) : (Instr.field t (.agg cs.toArray) i).run P w = .ok v w := by
  simp [Instr.field, run_underlying hu, hf, asAgg, h]
theorem run_box_enc {w : World} (x : α) : (Instr.box t (.agg (Enc.enc x).toArray)).run P w = .ok (.pointer (some ⟨w.heap.size, 0, none⟩)) (w.alloc (.cells (Enc.enc x).toArray t)) := by
  simp [Instr.box, newVar, newRow, Value.cells]
end


/-- The walk over an array's places that '==' makes, as a list. -/
def eqPlaces (d : Nat) (e : TypeId) (n : Nat) (xs ys : Array Value) : List Nat → Sem Bool
  | [] => pure true
  | i :: is => do
    let a ← part e xs (i * n)
    let b ← part e ys (i * n)
    let r ← Op.equalIn d e a b
    if (!r) = true then pure false else eqPlaces d e n xs ys is

section
variable {P : Program} {t e : TypeId} {len n : Nat}
theorem run_equalIn_array (d : Nat) (xs ys : Array Value) (ht : P.underlying t = some (.array len e)) (hs : sizeT P e = n) (hn : 0 < n) (w : World) :
    (Op.equalIn (d + 1) t (.agg xs) (.agg ys)).run P w = (eqPlaces d e n xs ys (List.range' 0 len)).run P w := by
  simp only [Op.equalIn, Sem.run_bind, run_underlying ht, Result.andThen_ok, run_sizeOf hs hn]
  rw [Std.Legacy.Range.forIn_eq_forIn_range']
  simp only [Std.Legacy.Range.size, Nat.sub_zero, Nat.add_sub_cancel, Nat.div_one]
  generalize List.range' 0 len = is
  clear ht
  induction is generalizing w with
  | nil => simp [eqPlaces]
  | cons i is ih =>
    simp only [List.forIn_cons, eqPlaces, Sem.run_bind]
    generalize (part e xs (i * n)).run P w = r1
    cases r1 with
    | ok a w1 =>
      simp only [Result.andThen_ok]
      generalize (part e ys (i * n)).run P w1 = r2
      cases r2 with
      | ok b w2 =>
        simp only [Result.andThen_ok]
        generalize (Op.equalIn d e a b).run P w2 = r3
        cases r3 with
        | ok r w3 =>
          cases r
          · simp
          · simp only [Result.andThen_ok]
            simpa using ih w3
        | halt x w3 => simp [Result.andThen]
      | halt x w2 => simp [Result.andThen]
    | halt x w1 => simp [Result.andThen]
end


/-- A slice's value. -/
structure Hdr where
  a : Option Addr
  len : Nat
  cap : Nat
deriving DecidableEq
instance : Inhabited Hdr := ⟨⟨none, 0, 0⟩⟩
@[go_sem] def Hdr.val (h : Hdr) : Value := .slice h.a h.len h.cap

/-- Elements of one cell. -/
structure I64 where
  v : Int
deriving DecidableEq
structure U64 where
  v : Int
deriving DecidableEq
structure U8 where
  v : UInt8
deriving DecidableEq
structure StrV where
  v : ByteArray
deriving DecidableEq
structure BoolV where
  v : Bool
deriving DecidableEq
@[reducible] def enc1 {α : Type} (f : α → Value) (h1 : ∀ x, (f x).oneCell' = true) (hi : ∀ x y, f x = f y → x = y) : Enc α where
  n := 1
  enc := fun x => [f x]
  pos := by omega
  len := fun _ => rfl
  one := by intro x u hu; simp at hu; subst hu; exact h1 x
  inj := by intro x y h; exact hi x y (by simpa using h)
instance : Enc I64 := enc1 (fun x => .int .i64 x.v) (fun _ => rfl) (by intro x y h; injection h with _ h; cases x; cases y; simp at h; rw [h])
instance : Enc U64 := enc1 (fun x => .int .u64 x.v) (fun _ => rfl) (by intro x y h; injection h with _ h; cases x; cases y; simp at h; rw [h])
def encU8 (b : UInt8) : Value := .int .u8 (b.toNat : Int)
theorem encU8_inj {a b : UInt8} (h : encU8 a = encU8 b) : a = b := by
  unfold encU8 at h
  injection h with _ h
  exact UInt8.toNat_inj.1 (by omega)
instance : Enc U8 := enc1 (fun x => encU8 x.v) (fun _ => rfl) (by intro x y h; have := encU8_inj h; cases x; cases y; simp at this; rw [this])
instance : Enc StrV := enc1 (fun x => .string x.v) (fun _ => rfl) (by intro x y h; injection h with h; cases x; cases y; simp at h; rw [h])
instance : Enc BoolV := enc1 (fun x => .bool x.v) (fun _ => rfl) (by intro x y h; injection h with h; cases x; cases y; simp at h; rw [h])
instance : Enc Hdr := enc1 Hdr.val (fun _ => rfl) (by intro x y h; simp only [Hdr.val] at h; injection h with h1 h2 h3; cases x; cases y; simp_all)
theorem get1 {α : Type} [Enc α] {w : World} {a : Addr} {x : α} {v : Value} (he : Enc.enc x = [v]) (h : get? α w a = some x) : w.cell? a = some v := by
  have := get?_iff.1 h 0 v (by rw [he]; rfl)
  simpa [Addr.add] using this

theorem bytes_beq (a b : ByteArray) : (a.toList == b.toList) = decide (a = b) := by
  rw [Bool.eq_iff_iff, beq_iff_eq, decide_eq_true_eq, ByteArray.toList_eq, ByteArray.toList_eq]
  constructor
  · intro h; apply ByteArray.ext; exact Array.ext' h
  · intro h; rw [h]
/-- 32 bytes. -/
structure GHash where
  l : List UInt8
  h : l.length = 32
deriving DecidableEq
instance : Inhabited GHash := ⟨⟨List.replicate 32 0, by simp⟩⟩
def GHash.enc (x : GHash) : List Value := x.l.map encU8
theorem GHash.enc_len (x : GHash) : x.enc.length = 32 := by simp [GHash.enc, x.h]
instance : Enc GHash where
  n := 32
  enc := GHash.enc
  pos := by omega
  len := GHash.enc_len
  one := by
    intro x u hu
    simp only [GHash.enc, List.mem_map] at hu
    obtain ⟨b, _, rfl⟩ := hu; rfl
  inj := by
    intro x y h
    obtain ⟨l, hl⟩ := x; obtain ⟨m, hm⟩ := y
    simp only [GHash.enc] at h
    congr 1
    exact (List.map_inj_right (fun a b => encU8_inj)).1 h
@[irreducible] def GHash.val (x : GHash) : Value := .agg x.enc.toArray
theorem GHash.val_eq (x : GHash) : GHash.val x = .agg (Enc.enc x).toArray := by unfold GHash.val; rfl

theorem eq_hash {P : Program} {tH t8 : TypeId} (u1 : P.underlying tH = some (.array 32 t8)) (s1 : sizeT P t8 = 1) (a8 : aggT P t8 = false) (u8 : P.underlying t8 = some (.int .u8)) (w : World) (d : Nat) (x y : GHash) :
    (Op.equalIn (d + 2) tH (GHash.val x) (GHash.val y)).run P w = .ok (decide (x = y)) w := by
  unfold GHash.val
  rw [Gv.run_equalIn_array (d + 1) _ _ (len := 32) (e := t8) (n := 1) u1 s1 (by omega)]
  have us : (P.underlying t8).isSome = true := by rw [u8]; rfl
  have key : ∀ (k m : Nat), k + m = 32 → (eqPlaces (d + 1) t8 1 x.enc.toArray y.enc.toArray (List.range' k m)).run P w = .ok (decide (x.l.drop k = y.l.drop k)) w := by
    intro k m
    induction m generalizing k with
    | zero =>
      intro hk
      have e1 : x.l.drop k = [] := List.drop_eq_nil_of_le (by rw [x.h]; omega)
      have e2 : y.l.drop k = [] := List.drop_eq_nil_of_le (by rw [y.h]; omega)
      simp [eqPlaces, e1, e2]
    | succ m ih =>
      intro hk
      have hx : k < x.l.length := by rw [x.h]; omega
      have hy : k < y.l.length := by rw [y.h]; omega
      have p1 := run_part_one (P := P) (t := t8) (w := w) (cs := x.enc) (off := k) (v := encU8 x.l[k]) a8 us (by simp [GHash.enc, hx])
      have p2 := run_part_one (P := P) (t := t8) (w := w) (cs := y.enc) (off := k) (v := encU8 y.l[k]) a8 us (by simp [GHash.enc, hy])
      rw [List.range'_succ, eqPlaces]
      simp only [Nat.mul_one, Sem.run_bind, p1, p2, Result.andThen_ok]
      have p3 : (Op.equalIn (d + 1) t8 (encU8 x.l[k]) (encU8 y.l[k])).run P w = .ok (decide (x.l[k] = y.l[k])) w := by
        unfold encU8
        rw [run_equalIn_int w d t8 .u8 .u8 _ _ u8]
        congr 1
        rw [Bool.eq_iff_iff]; simp only [beq_iff_eq, decide_eq_true_eq, ← UInt8.toNat_inj]; omega
      rw [p3]
      simp only [Result.andThen_ok]
      have e1 := List.drop_eq_getElem_cons hx
      have e2 := List.drop_eq_getElem_cons hy
      rw [e1, e2]
      have ih' := ih (k + 1) (by omega)
      by_cases he : x.l[k] = y.l[k]
      · simp [he, ih', -List.getElem_cons_drop]
      · simp [he, -List.getElem_cons_drop]
  have := key 0 32 rfl
  rw [this]
  congr 1
  rw [Bool.eq_iff_iff]
  obtain ⟨a, ha⟩ := x
  obtain ⟨b, hb⟩ := y
  simp

/-! ### Struct results, from runs of parts -/
section
variable {P : Program} {t : TypeId}
theorem run_zero_alloc {z : Value} (hz : zeroT P t = some z) (w : World) : (gAlloc t).run P w = .ok (.pointer (some ⟨w.heap.size, 0, none⟩)) (w.alloc (.cells z.cells t)) := by
  unfold gAlloc
  simp [Instr.alloc, run_zeroValue hz, newVar, newRow]
theorem run_gBox (x : List Value) (w : World) : (gBox t (.agg x.toArray)).run P w = .ok (.pointer (some ⟨w.heap.size, 0, none⟩)) (w.alloc (.cells x.toArray t)) := by
  unfold gBox
  simp [Instr.box, newVar, newRow, Value.cells]
def fieldTO (P : Program) (t : TypeId) : List (TypeId × Nat) := (P.fieldsOf t).toList.map fun f => (f.type, f.offset)
def noBlank (P : Program) (t : TypeId) : Bool := (P.fieldsOf t).toList.all fun f => f.name != "_"
theorem run_gField {cs : List Value} {i : Nat} {ft : TypeId} {off : Nat} {v : Value} (w : World) (hu : P.underlying t = some (.struct (P.fieldsOf t))) (hf : (fieldTO P t)[i]? = some (ft, off))
    (h : (part ft cs.toArray off).run P w = .ok v w) : (gField t (.agg cs.toArray) i).run P w = .ok v w := by
  unfold gField
  unfold fieldTO at hf
  simp only [List.getElem?_map, Array.getElem?_toList, Option.map_eq_some_iff, Prod.mk.injEq] at hf
  obtain ⟨f, h1, rfl, rfl⟩ := hf
  exact run_field_of hu h1 h
/-- The walk over a struct's fields that '==' makes, by their types and places. -/
def eqFs (d : Nat) (xs ys : Array Value) : List (TypeId × Nat) → Sem Bool
  | [] => pure true
  | f :: fs => do
    let a ← part f.1 xs f.2
    let b ← part f.1 ys f.2
    let r ← Op.equalIn d f.1 a b
    if (!r) = true then pure false else eqFs d xs ys fs
theorem run_equalIn_fields (d : Nat) (xs ys : Array Value) (w : World) (ht : P.underlying t = some (.struct (P.fieldsOf t))) (hp : P.stoodInHeld t = false) (hb : noBlank P t = true) :
    (Op.equalIn (d + 1) t (.agg xs) (.agg ys)).run P w = (eqFs d xs ys (fieldTO P t)).run P w := by
  rw [run_equalIn_struct w d t xs ys ht hp]
  unfold fieldTO
  unfold noBlank at hb
  congr 1
  generalize (P.fieldsOf t).toList = fs at hb
  induction fs with
  | nil => rfl
  | cons f fs ih =>
    simp only [List.all_cons, Bool.and_eq_true, bne_iff_ne] at hb
    simp only [Op.eqFields, List.map_cons, eqFs, ih hb.2, hb.1, ne_eq, not_false_eq_true, if_true]
theorem run_gStore_top {x z : List Value} {n : Nat} (w : World) (hn : n = w.heap.size) (hs : sizeT P t = x.length) (hp : 0 < x.length) (hz : z.length = x.length) (h1 : ∀ u ∈ x, u.oneCell' = true) (t' : TypeId) :
    (gStore t (.pointer (some ⟨n, 0, none⟩)) (.agg x.toArray)).run P (w.alloc (.cells z.toArray t')) = .ok () (w.alloc (.cells x.toArray t')) := by
  subst hn
  unfold gStore
  have h0 := heap_alloc_new w (.cells z.toArray t')
  have hst := run_storeCells_from (P := P) w.heap.size t' x 0 z.toArray (w.alloc (.cells z.toArray t')) h0 (by simp [hz]) h1
  have hrow : (w.alloc (.cells z.toArray t')).setRow w.heap.size x.toArray = w.alloc (.cells x.toArray t') := by
    unfold World.setRow World.alloc
    congr 1
    apply Array.ext_getElem?
    intro k
    rw [Array.getElem?_modify]
    by_cases hk : w.heap.size = k
    · subst hk; simp
    · have hk' : k ≠ w.heap.size := fun e => hk e.symm
      simp [hk, hk', Array.getElem?_push]
  simp only [List.take_zero, List.nil_append] at hst
  rw [hrow] at hst
  simp [Instr.storeAt, Instr.sureAddr, storeVar, run_sizeOf hs hp, Value.cells, hst]
end


/-! ### Small facts for the ends of walks -/
theorem ret_bool {a b : Bool} (h : a = b) : Ending.returned (.bool a) = .returned (.bool b) := by rw [h]
theorem ret_int {k : IntKind} {a b : Int} (h : a = b) : Ending.returned (.int k a) = .returned (.int k b) := by rw [h]
theorem nd_t {p : Prop} [Decidable p] (h : (!decide p) = true) : ¬ p := by simpa using h
theorem nd_f {p : Prop} [Decidable p] (h : (!decide p) = false) : p := by simpa using h
theorem drewN2 (w : World) (n m : Nat) : ∃ q, (w.drewN n).drewN m = w.drewN q := ⟨n + m, World.drewN_drewN _ _ _⟩
@[go_sem ↓ high] theorem run_min_nat (P : Program) (w : World) (ts : Array TypeId) (t : TypeId) (k k' : IntKind) (x y : Nat) : (Builtin.min_ ts t #[.int k (x : Int), .int k' (y : Int)]).run P w = .ok (.int k ((min x y : Nat) : Int)) w := by
  rw [run_min_int2]; congr 2; split <;> omega
theorem tmod_neg {v n : Int} (hn : 1 ≤ n) (h : v.tmod n < 0) : v.tmod n + n = v % n := by
  have h1 := Int.tmod_eq_emod (a := v) (b := n)
  have h2 := Int.emod_nonneg v (show n ≠ 0 by omega)
  have h3 := Int.emod_lt_of_pos v (show 0 < n by omega)
  split at h1 <;> omega
theorem tmod_pos {v n : Int} (hn : 1 ≤ n) (h : 0 ≤ v.tmod n) : v.tmod n = v % n := by
  have h1 := Int.tmod_eq_emod (a := v) (b := n)
  have h2 := Int.emod_nonneg v (show n ≠ 0 by omega)
  have h3 := Int.emod_lt_of_pos v (show 0 < n by omega)
  split at h1 <;> omega
theorem tmod_lo {v n : Int} (hn : 1 ≤ n) : -n < v.tmod n ∧ v.tmod n < n := by
  have h1 := Int.tmod_eq_emod (a := v) (b := n)
  have h2 := Int.emod_nonneg v (show n ≠ 0 by omega)
  have h3 := Int.emod_lt_of_pos v (show 0 < n by omega)
  split at h1 <;> omega

theorem flipC {P : Program} {f : FuncId} {args : Array Value} {w : World} {v : Value} (h : Calls P f args w fun e w' => e = .returned v ∧ w = w') : Calls P f args w fun e w' => e = .returned v ∧ w' = w :=
  h.mono fun _ _ ⟨h1, h2⟩ => ⟨h1, h2.symm⟩

/-- A region that draws its order: n operations that leave the world alone, then a tail in one forced order. -/
theorem wp_region_tail {P : Program} {id : Nat} {Q : Exit → Act → World → Prop} {a : Act} {w : World} {l : List Oper} (n : Nat) (hm : P.follows .mixedOrders = true) (hB : Region.lexTailB .any l.toArray n = true)
    (h : wpStill P l.toArray w.drew (fun a' => wpList P l.toArray Q (l.drop n) a' w.drew) (l.take n) a) : (Code.region id l.toArray true).wp P Q a w := wp_region_still_tail n hm hB h

section
variable {α : Type} [Enc α] {w w' : World} {B : Nat} {A : Option Addr} {len : Nat} {xs : List α}
theorem flat_at {xs : List α} {k j : Nat} {x : α} {u : Value} (hx : xs[k]? = some x) (hu : (Enc.enc x)[j]? = some u) : (xs.flatMap Enc.enc)[k * Enc.n α + j]? = some u := by
  have hj : j < Enc.n α := by have := (List.getElem?_eq_some_iff.1 hu).1; rwa [Enc.len] at this
  induction xs generalizing k with
  | nil => simp at hx
  | cons y ys ih =>
    cases k with
    | zero =>
      simp at hx; subst hx
      simp only [List.flatMap_cons, Nat.zero_mul, Nat.zero_add]
      rw [List.getElem?_append_left (by rw [Enc.len]; exact hj)]; exact hu
    | succ k =>
      simp only [List.flatMap_cons, Nat.add_mul, Nat.one_mul]
      rw [List.getElem?_append_right (by rw [Enc.len]; omega), Enc.len]
      have := ih (k := k) (by simpa using hx)
      rw [← this]; congr 1; omega
theorem flat_len (xs : List α) : (xs.flatMap Enc.enc).length = xs.length * Enc.n α := by
  induction xs with
  | nil => simp
  | cons x xs ih => rw [List.flatMap_cons, List.length_append, ih, Enc.len, List.length_cons, Nat.add_mul]; omega
theorem Sl.drew_ (h : Sl α w B A len xs) : Sl α w.drew B A len xs := h
theorem Sl.drewN_ (h : Sl α w B A len xs) (n : Nat) : Sl α (w.drewN n) B A len xs :=
  ⟨h.1, fun hn => by obtain ⟨ad, e, hB, hc⟩ := h.2 hn; exact ⟨ad, e, hB, fun k x hx => (get?_drewN n).trans (hc k x hx)⟩⟩
theorem Sl.of_row {g : Nat} {cs : Array Value} {t : TypeId} {fr : Nat × Nat} (hg : w.heap[g]? = some (.cells cs t fr)) (h : cs.toList.take (len * Enc.n α) = xs.flatMap Enc.enc) (hl : xs.length = len) (hB : g < B) : Sl α w B (some ⟨g, 0, none⟩) len xs := by
  refine ⟨hl, fun _ => ⟨_, rfl, hB, fun k x hx => ?_⟩⟩
  rw [get?_iff]
  intro j u hu
  rw [add_add]
  have hadd : ∀ i, (⟨g, 0, none⟩ : Addr).add i = ⟨g, i, none⟩ := fun i => by unfold Addr.add; split <;> simp_all
  rw [hadd, cell_of_row w g _ cs t fr hg]
  have h2 := flat_at hx hu
  rw [← h, List.getElem?_take] at h2
  split at h2
  · simpa using h2
  · cases h2
theorem Sl.new_ {t : TypeId} {cs : Array Value} {n : Nat} (h : cs.toList = xs.flatMap Enc.enc) (hl : xs.length = len) (hn : n = w.heap.size) (hB : n < B) : Sl α (w.alloc (.cells cs t)) B (some ⟨n, 0, none⟩) len xs := by
  subst hn
  refine Sl.of_row (heap_alloc_new w _) ?_ hl hB
  rw [h, List.take_of_length_le (by rw [flat_len, hl]; exact Nat.le_refl _)]
theorem Sl.alloc_ (h : Sl α w B A len xs) (o : Obj) (hB : B ≤ w.heap.size) : Sl α (w.alloc o) B A len xs := h.below ((Below.refl _ _).alloc hB o)
end

theorem wrap_nat {j : Nat} (h : j ≤ 9223372036854775807) : IntKind.i64.wrap (j : Int) = j := IntWalk.i64_in _ (by omega)

/-! ### Stores of whole values -/
def World.putFrom (w : World) (a : Addr) : Nat → List Value → World
  | _, [] => w
  | i, v :: vs => World.putFrom (w.setCell (a.add i) v) a (i + 1) vs
@[irreducible] def World.putCells (w : World) (a : Addr) (cs : List Value) : World := World.putFrom w a 0 cs
def objFree : Option Obj → Bool
  | some (.cells _ _ fr) => fr == (0, 0)
  | _ => false
def blkFree (w : World) (b : Nat) : Bool := objFree (w.heap[b]?)

section
variable {α : Type} [Enc α] {P : Program} {t : TypeId} {w : World} {a : Addr}
@[go_sem] theorem blkFree_new (cs : Array Value) (n : Nat) (hn : n = w.heap.size) : blkFree (w.alloc (.cells cs t)) n = true := by
  subst hn; unfold blkFree; rw [heap_alloc_new]; rfl
@[go_sem] theorem blkFree_past (o : Obj) (n : Nat) (hn : n < w.heap.size) : blkFree (w.alloc o) n = blkFree w n := by
  unfold blkFree; rw [Below.heap_alloc _ _ _ hn]
@[go_sem, simp] theorem blkFree_drew (n : Nat) : blkFree w.drew n = blkFree w n := rfl
@[go_sem, simp] theorem blkFree_drewN (k n : Nat) : blkFree (w.drewN k) n = blkFree w n := rfl
theorem blkFree_keep {w' : World} {n : Nat} (h : w'.heap[n]? = w.heap[n]?) : blkFree w' n = blkFree w n := by unfold blkFree; rw [h]
theorem frozen_of_free (h : blkFree w a.block = true) : w.frozen? a = false := by
  unfold blkFree at h
  unfold World.frozen?
  cases hb : w.heap[a.block]? with
  | none => rfl
  | some o =>
    rw [hb] at h
    cases o <;> simp [objFree] at h ⊢
    subst h
    simp
theorem blkFree_setCell (p : Addr) (u : Value) (n : Nat) : blkFree (w.setCell p u) n = blkFree w n := by
  unfold blkFree World.setCell
  simp only [Array.getElem?_modify]
  by_cases h : p.block = n
  · simp only [h, if_true]
    cases w.heap[n]? with
    | none => rfl
    | some o => cases o <;> rfl
  · simp only [h, if_false]
theorem cell_isSome_setCell (p q : Addr) (u : Value) (h : (w.cell? q).isSome = true) : ((w.setCell p u).cell? q).isSome = true := by
  obtain ⟨v, hv⟩ := Option.isSome_iff_exists.1 h
  by_cases hpq : p = q
  · subst hpq; rw [World.cell?_setCell_same w p u hv]; rfl
  · rw [World.cell?_setCell_other w p q u hpq, hv]; rfl
theorem run_storeCells_put : ∀ (vs : List Value) (i : Nat) (w : World), (∀ j, j < vs.length → (w.cell? (a.add (i + j))).isSome = true) → blkFree w a.block = true → (∀ u ∈ vs, u.oneCell' = true) →
    (storeCells a vs i).run P w = .ok () (World.putFrom w a i vs)
  | [], i, w, _, _, _ => by simp [storeCells, World.putFrom]
  | v :: vs, i, w, hc, hf, h1 => by
    have h0 := hc 0 (by simp)
    simp only [Nat.add_zero] at h0
    obtain ⟨u, hu⟩ := Option.isSome_iff_exists.1 h0
    have hst := run_store P w (a.add i) v .plain (h1 v (by simp))
    rw [hu] at hst
    have hfr : w.frozen? (a.add i) = false := frozen_of_free (by rw [add_block]; exact hf)
    simp only [hfr, Bool.false_eq_true, if_false] at hst
    simp only [storeCells, Sem.run_bind, hst, Result.andThen_ok, World.putFrom]
    refine run_storeCells_put vs (i + 1) _ (fun j hj => ?_) (by rw [blkFree_setCell]; exact hf) (fun u hu => h1 u (by simp [hu]))
    have := hc (j + 1) (by simp; omega)
    exact cell_isSome_setCell _ _ _ (by rwa [show i + 1 + j = i + (j + 1) by omega])
theorem run_gStore (ha : sizeT P t = Enc.n α) (x : α) (hg : (get? α w a).isSome = true) (hf : blkFree w a.block = true) :
    (gStore t (.pointer (some a)) (.agg (Enc.enc x).toArray)).run P w = .ok () (World.putCells w a (Enc.enc x)) := by
  obtain ⟨y, hy⟩ := Option.isSome_iff_exists.1 hg
  unfold gStore World.putCells
  have hst := run_storeCells_put (P := P) (a := a) (Enc.enc x) 0 w (fun j hj => by
    rw [Enc.len] at hj
    have h2 := get?_iff.1 hy j ((Enc.enc y)[j]'(by rw [Enc.len]; exact hj)) (List.getElem?_eq_getElem _)
    rw [Nat.zero_add, h2]; rfl) hf (Enc.one x)
  simp [Instr.storeAt, Instr.sureAddr, storeVar, run_sizeOf ha Enc.pos, Value.cells, Enc.len, hst]
@[irreducible] def noStore (P : Program) (t : TypeId) (a x : Value) (w : World) : Result Unit := (gStore t a x).run P w
def okU' (b : Bool) (w : World) (r : Result Unit) : Result Unit := if b then .ok () w else r
@[simp, go_sem] theorem okU'_true (w : World) (r : Result Unit) : okU' true w r = .ok () w := rfl
theorem run_gStore_any (ha : sizeT P t = Enc.n α) (val : α → Value) (hv : ∀ x, val x = .agg (Enc.enc x).toArray) (w : World) (a : Addr) (x : α) :
    (gStore t (.pointer (some a)) (val x)).run P w = okU' ((get? α w a).isSome && blkFree w a.block) (World.putCells w a (Enc.enc x)) (noStore P t (.pointer (some a)) (val x) w) := by
  cases h : (get? α w a).isSome && blkFree w a.block with
  | true =>
    simp only [Bool.and_eq_true] at h
    rw [hv, run_gStore ha x h.1 h.2]; rfl
  | false => unfold noStore; rfl
@[go_sem] theorem putCells_drew (cs : List Value) : World.putCells w.drew a cs = (World.putCells w a cs).drew := by
  unfold World.putCells
  have : ∀ (cs : List Value) (i : Nat) (w : World), World.putFrom w.drew a i cs = (World.putFrom w a i cs).drew := by
    intro cs
    induction cs with
    | nil => intro i w; rfl
    | cons v vs ih => intro i w; exact ih _ (w.setCell (a.add i) v)
  exact this cs 0 w
theorem putCells_past (o : Obj) (cs : List Value) (h : a.block < w.heap.size) (hs : a.spot = none) : World.putCells (w.alloc o) a cs = (World.putCells w a cs).alloc o := by
  unfold World.putCells
  have : ∀ (cs : List Value) (i : Nat) (w : World), a.block < w.heap.size → World.putFrom (w.alloc o) a i cs = (World.putFrom w a i cs).alloc o := by
    intro cs
    induction cs with
    | nil => intro i w _; rfl
    | cons v vs ih =>
      intro i w hw
      have e : (w.alloc o).setCell (a.add i) v = (w.setCell (a.add i) v).alloc o := by
        have ha : a.add i = ⟨a.block, a.off + i, none⟩ := by
          unfold Addr.add; split
          · rename_i h0; subst h0; cases a; simp at hs ⊢; exact hs
          · rfl
        rw [ha]; exact World.setCell_alloc_past o a.block (a.off + i) v hw
      simp only [World.putFrom, e]
      exact ih _ _ (by simpa using hw)
  exact this cs 0 w h
@[go_sem] theorem putCells_past' (o : Obj) (n k : Nat) (cs : List Value) (h : n < w.heap.size) : World.putCells (w.alloc o) ⟨n, k, none⟩ cs = (World.putCells w ⟨n, k, none⟩ cs).alloc o := putCells_past o cs h rfl
theorem putCells_top {n : Nat} (x z : α) (hn : n = w.heap.size) : World.putCells (w.alloc (.cells (Enc.enc z).toArray t)) ⟨n, 0, none⟩ (Enc.enc x) = w.alloc (.cells (Enc.enc x).toArray t) := by
  subst hn
  unfold World.putCells
  have key : ∀ (vs pre post : List Value), post.length = vs.length → World.putFrom (w.alloc (.cells (pre ++ post).toArray t)) ⟨w.heap.size, 0, none⟩ pre.length vs = w.alloc (.cells (pre ++ vs).toArray t) := by
    intro vs
    induction vs with
    | nil => intro pre post h; cases post <;> simp_all [World.putFrom]
    | cons v vs ih =>
      intro pre post h
      cases post with
      | nil => simp at h
      | cons p post =>
        have ha : (⟨w.heap.size, 0, none⟩ : Addr).add pre.length = ⟨w.heap.size, pre.length, none⟩ := by unfold Addr.add; split <;> simp_all
        have e : (pre ++ p :: post).toArray.setIfInBounds pre.length v = ((pre ++ [v]) ++ post).toArray := by
          apply Array.ext'
          simp [List.set_append_right]
        have := ih (pre ++ [v]) post (by simpa using h)
        simp only [World.putFrom, ha, World.setCell_alloc_new, e]
        rw [show pre.length + 1 = (pre ++ [v]).length by simp, this]
        simp
  have := key (Enc.enc x) [] (Enc.enc z) (by rw [Enc.len, Enc.len])
  simpa using this
theorem heap_putCells (cs : List Value) (k : Nat) (h : k ≠ a.block) : (World.putCells w a cs).heap[k]? = w.heap[k]? := by
  unfold World.putCells
  have : ∀ (cs : List Value) (i : Nat) (w : World), (World.putFrom w a i cs).heap[k]? = w.heap[k]? := by
    intro cs
    induction cs with
    | nil => intro i w; rfl
    | cons v vs ih => intro i w; exact (ih _ _).trans (Below.heap_setCell _ _ _ _ (by rw [add_block]; exact h))
  exact this cs 0 w
@[go_sem, simp] theorem size_putCells (cs : List Value) : (World.putCells w a cs).heap.size = w.heap.size := by
  unfold World.putCells
  have : ∀ (cs : List Value) (i : Nat) (w : World), (World.putFrom w a i cs).heap.size = w.heap.size := by
    intro cs
    induction cs with
    | nil => intro i w; rfl
    | cons v vs ih => intro i w; exact (ih _ _).trans (by simp)
  exact this cs 0 w
theorem Below_putCells {B : Nat} {v : World} (h : Below B v w) (hB : B ≤ a.block) (cs : List Value) : Below B v (World.putCells w a cs) := by
  unfold World.putCells
  have : ∀ (cs : List Value) (i : Nat) (w : World), Below B v w → Below B v (World.putFrom w a i cs) := by
    intro cs
    induction cs with
    | nil => intro i w h; exact h
    | cons u vs ih => intro i w h; exact ih _ _ (h.setCell (by rw [add_block]; exact hB) u)
  exact this cs 0 w h
theorem cell_putFrom (hs : a.spot = none) : ∀ (cs : List Value) (i : Nat) (w : World) (q : Addr), q.spot = none → (w.cell? q).isSome = true →
    (World.putFrom w a i cs).cell? q = if q.block = a.block ∧ a.off + i ≤ q.off ∧ q.off < a.off + i + cs.length then cs[q.off - (a.off + i)]? else w.cell? q
  | [], i, w, q, hq, h => by simp [World.putFrom]; intro h1 h2 h3; omega
  | v :: vs, i, w, q, hq, h => by
    have ha : a.add i = ⟨a.block, a.off + i, none⟩ := by
      unfold Addr.add; split
      · rename_i h0; subst h0; cases a; simp at hs ⊢; exact hs
      · rfl
    have ih := cell_putFrom hs vs (i + 1) (w.setCell (a.add i) v) q hq (cell_isSome_setCell _ _ _ h)
    simp only [World.putFrom, ih, List.length_cons]
    by_cases hb : q.block = a.block
    · by_cases ho : q.off = a.off + i
      · have e : q = a.add i := by rw [ha]; cases q; simp at hb ho hq ⊢; exact ⟨hb, ho, hq⟩
        obtain ⟨u, hu⟩ := Option.isSome_iff_exists.1 h
        rw [if_neg (by omega), if_pos (by omega), e, World.cell?_setCell_same w _ v (by rw [← e]; exact hu), ha]
        simp
      · have hne : a.add i ≠ q := fun e => ho (by rw [← e, ha])
        by_cases hr : a.off + (i + 1) ≤ q.off ∧ q.off < a.off + (i + 1) + vs.length
        · rw [if_pos ⟨hb, hr⟩, if_pos (by omega)]
          rw [show q.off - (a.off + i) = (q.off - (a.off + (i + 1))) + 1 by omega, List.getElem?_cons_succ]
        · rw [if_neg (by omega), if_neg (by omega), World.cell?_setCell_other w _ _ _ hne]
    · rw [if_neg (by omega), if_neg (by omega), World.cell?_setCell_other w _ _ _ (fun e => hb (by rw [← e, add_block]))]
end

theorem Sl.back {α : Type} [Enc α] {w w' : World} {B : Nat} {A : Option Addr} {len : Nat} {xs : List α} (h : Sl α w' B A len xs) (hb : Below B w w') : Sl α w B A len xs :=
  ⟨h.1, fun hn => by
    obtain ⟨ad, e, hB, hc⟩ := h.2 hn
    exact ⟨ad, e, hB, fun k x hx => (get?_below hb (by rw [add_block]; exact hB)).symm.trans (hc k x hx)⟩⟩

theorem bdN {B : Nat} {a w : World} (h : Below B a w) (n : Nat) : Below B a (w.drewN n) := ⟨h.os, h.tape, h.output, h.size, h.block⟩

end Go.Gv
/- Sorting by insertion, as lists; what stands ahead. Conditions: those named in each theorem. -/
namespace Go.Gv
open Go.Sort
section
variable {α : Type} [Inhabited α] (lt : α → α → Bool)
/-- Into a list from its end. -/
def insRev (x : α) : List α → List α
  | [] => [x]
  | y :: ys => if lt x y = true then y :: insRev x ys else x :: y :: ys
theorem getBang_toList (d : Array α) (i : Nat) (h : i < d.size) : d[i]! = d.toList[i]'(by simpa using h) := by
  rw [getElem!_pos d i h]; rfl
theorem insInner_list : ∀ (i : Nat) (d : Array α) (R : List α) (x : α) (S : List α), d.toList = R.reverse ++ x :: S → R.length = i → (insInner lt 0 i d).toList = (insRev lt x R).reverse ++ S
  | 0, d, R, x, S, hd, hl => by
    have : R = [] := List.eq_nil_of_length_eq_zero hl
    subst this
    simp [insInner, insRev, hd]
  | j + 1, d, R, x, S, hd, hl => by
    cases R with
    | nil => simp at hl
    | cons y R =>
      have hlR : R.length = j := by simpa using hl
      have hsz : d.size = R.length + 1 + 1 + S.length := by
        have := congrArg List.length hd; simp at this; omega
      have hj : d[j]! = y := by
        rw [getBang_toList d j (by omega)]
        simp only [hd, List.reverse_cons, List.append_assoc, List.cons_append, List.nil_append]
        rw [List.getElem_append_right (by simp; omega)]
        simp [hlR]
      have hj1 : d[j + 1]! = x := by
        rw [getBang_toList d (j + 1) (by omega)]
        simp only [hd, List.reverse_cons, List.append_assoc, List.cons_append, List.nil_append]
        rw [List.getElem_append_right (by simp; omega)]
        simp [hlR]
      unfold insInner insRev
      rw [hj, hj1]
      by_cases h : lt x y = true
      · have hs : (swp d (j + 1) j).toList = R.reverse ++ x :: (y :: S) := by
          unfold swp
          rw [hj, hj1]
          simp only [Array.toList_setIfInBounds, hd, List.reverse_cons, List.append_assoc, List.cons_append, List.nil_append]
          rw [List.set_append_right _ _ (by simp; omega), List.set_append_right _ _ (by simp; omega)]
          simp [hlR]
        have ih := insInner_list j (swp d (j + 1) j) R x (y :: S) hs hlR
        simp only [h, if_true, Nat.zero_lt_succ, decide_true, Bool.and_self, gt_iff_lt]
        rw [ih]
        simp
      · simp only [h, Bool.and_false]
        simp [hd]
theorem insOuter_list : ∀ (n i : Nat) (d : Array α) (R S : List α), S.length = n → d.toList = R.reverse ++ S → R.length = i → (insOuter lt 0 d.size i d).toList = (S.foldl (fun R x => insRev lt x R) R).reverse
  | 0, i, d, R, S, hn, hd, hl => by
    have : S = [] := List.eq_nil_of_length_eq_zero hn
    subst this
    have hsz : d.size = i := by have := congrArg List.length hd; simp at this; omega
    rw [insOuter, if_neg (by omega)]
    simp [hd]
  | n + 1, i, d, R, S, hn, hd, hl => by
    cases S with
    | nil => simp at hn
    | cons x S =>
      have hsz : d.size = i + 1 + S.length := by have := congrArg List.length hd; simp at this; omega
      have h1 := insInner_list lt i d R x S hd hl
      have h2 : (insInner lt 0 i d).size = d.size := by
        have := congrArg List.length h1
        have hr : (insRev lt x R).length = R.length + 1 := by
          clear h1 hd this hl
          induction R with
          | nil => rfl
          | cons y R ih => unfold insRev; split <;> simp [ih]
        simp [hr] at this
        omega
      rw [insOuter, if_pos (by omega), ← h2]
      have hr : (insRev lt x R).length = i + 1 := by
        have := congrArg List.length h1
        simp at this; omega
      exact insOuter_list n (i + 1) _ (insRev lt x R) S (by simpa using hn) h1 hr
theorem insertionSort_list (d : Array α) : (insertionSort lt d 0 d.size).toList = (d.toList.foldl (fun R x => insRev lt x R) []).reverse := by
  unfold insertionSort
  cases h : d.toList with
  | nil =>
    have hsz : d.size = 0 := by have := congrArg List.length h; simpa using this
    rw [insOuter, if_neg (by omega), h]; rfl
  | cons x S =>
    have := insOuter_list lt S.length 1 d [x] S rfl (by simp [h]) rfl
    rw [this]
    rfl
end
section
variable {α : Type} (key : α → Int)
def ltK (x y : α) : Bool := decide (key y < key x)
/-- Into a list that falls, behind those as great. -/
def insL (x : α) : List α → List α
  | [] => [x]
  | y :: ys => if key y < key x then x :: y :: ys else y :: insL x ys
def Falls (s : List α) : Prop := s.Pairwise fun a b => key b ≤ key a
theorem mem_insL {x z : α} : ∀ {s : List α}, z ∈ insL key x s ↔ z = x ∨ z ∈ s
  | [] => by simp [insL]
  | y :: ys => by
    unfold insL
    split
    · simp
    · simp only [List.mem_cons, mem_insL (s := ys)]
      constructor
      · rintro (h | h | h) <;> simp [h]
      · rintro (h | h | h) <;> simp [h]
theorem falls_insL (x : α) : ∀ {s : List α}, Falls key s → Falls key (insL key x s)
  | [], _ => by simp [insL, Falls]
  | y :: ys, h => by
    unfold Falls at h ⊢
    unfold insL
    rw [List.pairwise_cons] at h
    split
    · rename_i hlt
      rw [List.pairwise_cons, List.pairwise_cons]
      refine ⟨fun z hz => ?_, h⟩
      simp only [List.mem_cons] at hz
      rcases hz with rfl | hz
      · omega
      · have := h.1 z hz; omega
    · rename_i hge
      rw [List.pairwise_cons]
      refine ⟨fun z hz => ?_, falls_insL x h.2⟩
      rw [mem_insL] at hz
      rcases hz with rfl | hz
      · omega
      · exact h.1 z hz
theorem insL_end {x z : α} (hz : key x ≤ key z) : ∀ {t : List α}, (∀ y ∈ t, key z ≤ key y) → insL key x (t ++ [z]) = t ++ [z, x]
  | [], _ => by simp only [List.nil_append, insL]; rw [if_neg (by omega)]
  | y :: t, h => by
    have hy := h y (by simp)
    simp only [List.cons_append, insL]
    rw [if_neg (by omega), insL_end hz fun y' hy' => h y' (by simp [hy'])]
theorem insL_mid {x z : α} (hz : key z < key x) : ∀ {t : List α}, insL key x (t ++ [z]) = insL key x t ++ [z]
  | [] => by simp only [List.nil_append, insL]; rw [if_pos hz]; rfl
  | y :: t => by
    simp only [List.cons_append, insL]
    by_cases h : key y < key x
    · rw [if_pos h, if_pos h]; rfl
    · rw [if_neg h, if_neg h, insL_mid hz]; rfl
theorem insRev_insL (x : α) : ∀ (R : List α), Falls key R.reverse → (insRev (ltK key) x R).reverse = insL key x R.reverse
  | [], _ => rfl
  | z :: R, h => by
    unfold Falls at h
    rw [List.reverse_cons, List.pairwise_append] at h
    have hall : ∀ y ∈ R.reverse, key z ≤ key y := fun y hy => h.2.2 y hy z (by simp)
    unfold insRev
    by_cases hlt : key z < key x
    · rw [if_pos (by unfold ltK; exact decide_eq_true hlt), List.reverse_cons, insRev_insL x R h.1, List.reverse_cons, insL_mid key hlt]
    · rw [if_neg (by unfold ltK; simp; omega), List.reverse_cons, List.reverse_cons, List.append_assoc, insL_end key (by omega) hall]
      rfl
/-- The list, the greatest ahead, of those as great the earlier one ahead. -/
def sortL (l : List α) : List α := l.foldl (fun s x => insL key x s) []
theorem sortL_snoc (l : List α) (x : α) : sortL key (l ++ [x]) = insL key x (sortL key l) := by simp [sortL]
theorem falls_sortL (l : List α) : Falls key (sortL key l) := by
  have : ∀ (l s : List α), Falls key s → Falls key (l.foldl (fun s x => insL key x s) s) := by
    intro l
    induction l with
    | nil => intro s h; exact h
    | cons x l ih => intro s h; exact ih _ (falls_insL key x h)
  exact this l [] List.Pairwise.nil
theorem fold_insRev (l : List α) : ∀ (R : List α), Falls key R.reverse → (l.foldl (fun R x => insRev (ltK key) x R) R).reverse = l.foldl (fun s x => insL key x s) R.reverse := by
  induction l with
  | nil => intro R _; rfl
  | cons x l ih =>
    intro R h
    have e := insRev_insL key x R h
    simp only [List.foldl_cons]
    rw [ih _ (by rw [e]; exact falls_insL key x h), e]
theorem insertionSort_sortL [Inhabited α] (d : Array α) : (insertionSort (ltK key) d 0 d.size).toList = sortL key d.toList := by
  rw [insertionSort_list, fold_insRev key _ [] List.Pairwise.nil]; rfl
theorem length_insL (x : α) : ∀ (s : List α), (insL key x s).length = s.length + 1
  | [] => rfl
  | y :: ys => by
    unfold insL
    split
    · rfl
    · simp [length_insL x ys]
theorem length_sortL (l : List α) : (sortL key l).length = l.length := by
  have : ∀ (l s : List α), (l.foldl (fun s x => insL key x s) s).length = s.length + l.length := by
    intro l
    induction l with
    | nil => intro s; rfl
    | cons x l ih => intro s; rw [List.foldl_cons, ih, length_insL]; simp; omega
  have h := this l []
  simpa [sortL] using h
theorem mem_sortL {l : List α} {z : α} : z ∈ sortL key l ↔ z ∈ l := by
  have : ∀ (l s : List α), z ∈ l.foldl (fun s x => insL key x s) s ↔ z ∈ s ∨ z ∈ l := by
    intro l
    induction l with
    | nil => intro s; simp
    | cons x l ih =>
      intro s
      rw [List.foldl_cons, ih, mem_insL, List.mem_cons]
      constructor
      · rintro ((h | h) | h) <;> simp [h]
      · rintro (h | h | h) <;> simp [h]
  have h := this l []
  simpa [sortL] using h
theorem head_insL (x : α) (s : List α) : (insL key x s).head? = some (match s with
    | [] => x
    | y :: _ => if key y < key x then x else y) := by
  cases s with
  | nil => rfl
  | cons y ys => simp only [insL]; split <;> rfl
theorem perm_insL (x : α) : ∀ (s : List α), (insL key x s).Perm (x :: s)
  | [] => List.Perm.refl _
  | y :: ys => by
    unfold insL
    split
    · exact List.Perm.refl _
    · exact ((perm_insL x ys).cons y).trans (List.Perm.swap x y ys)
theorem perm_sortL (l : List α) : (sortL key l).Perm l := by
  have : ∀ (l s : List α), (l.foldl (fun s x => insL key x s) s).Perm (s ++ l) := by
    intro l
    induction l with
    | nil => intro s; simp
    | cons x l ih =>
      intro s
      rw [List.foldl_cons]
      refine (ih _).trans ?_
      refine ((perm_insL key x s).append_right l).trans ?_
      rw [List.cons_append]
      exact (List.perm_middle).symm
  have h := this l []
  simpa [sortL] using h
/-- The head is the first of the greatest. -/
theorem head_sortL {pre post : List α} {b : α} (h1 : ∀ x ∈ pre, key x < key b) (h2 : ∀ x ∈ post, key x ≤ key b) : (sortL key (pre ++ b :: post)).head? = some b := by
  have hb : (sortL key (pre ++ [b])).head? = some b := by
    rw [sortL_snoc, head_insL]
    cases h : sortL key pre with
    | nil => rfl
    | cons y ys =>
      have : y ∈ pre := (mem_sortL key).1 (by rw [h]; simp)
      simp only
      rw [if_pos (h1 y this)]
  have : ∀ (post pre : List α), (sortL key pre).head? = some b → (∀ x ∈ post, key x ≤ key b) → (sortL key (pre ++ post)).head? = some b := by
    intro post
    induction post with
    | nil => intro pre h _; simpa using h
    | cons x post ih =>
      intro pre h h2
      have := ih (pre ++ [x]) (by
        rw [sortL_snoc, head_insL]
        cases hs : sortL key pre with
        | nil => rw [hs] at h; cases h
        | cons y ys =>
          rw [hs] at h
          injection h with h
          subst h
          simp only
          rw [if_neg (by have := h2 x (by simp); omega)]) (fun z hz => h2 z (by simp [hz]))
      simpa using this
  have := this post (pre ++ [b]) hb h2
  simpa using this
end
end Go.Gv
/- Two lists, place by place. Conditions: those named in each theorem. -/
namespace Go.Gv
/-- Two lists, place by place. -/
def R2 {α β : Type} (R : α → β → Prop) : List α → List β → Prop
  | [], [] => True
  | a :: l, b :: m => R a b ∧ R2 R l m
  | _, _ => False
section
variable {α β : Type} {R R' : α → β → Prop}
theorem R2.len : ∀ {l : List α} {m : List β}, R2 R l m → l.length = m.length
  | [], [], _ => rfl
  | _ :: _, _ :: _, h => by simp [R2.len h.2]
  | [], _ :: _, h => h.elim
  | _ :: _, [], h => h.elim
theorem R2.mono (hR : ∀ a b, R a b → R' a b) : ∀ {l : List α} {m : List β}, R2 R l m → R2 R' l m
  | [], [], h => h
  | _ :: _, _ :: _, h => ⟨hR _ _ h.1, R2.mono hR h.2⟩
  | [], _ :: _, h => h.elim
  | _ :: _, [], h => h.elim
theorem R2.at_ : ∀ {l : List α} {m : List β}, R2 R l m → ∀ {i : Nat} {a : α}, l[i]? = some a → ∃ b, m[i]? = some b ∧ R a b
  | [], [], _, i, a, e => by simp at e
  | x :: l, y :: m, h, 0, a, e => by simp at e; subst e; exact ⟨y, rfl, h.1⟩
  | x :: l, y :: m, h, i + 1, a, e => by
    obtain ⟨b, h1, h2⟩ := R2.at_ h.2 (i := i) (a := a) (by simpa using e)
    exact ⟨b, by simpa using h1, h2⟩
  | [], _ :: _, h, _, _, _ => h.elim
  | _ :: _, [], h, _, _, _ => h.elim
theorem R2.perm {l l' : List α} (hp : l.Perm l') : ∀ {m : List β}, R2 R l m → ∃ m', m.Perm m' ∧ R2 R l' m' := by
  induction hp with
  | nil => intro m h; exact ⟨m, .refl _, h⟩
  | cons x _ ih =>
    intro m h
    cases m with
    | nil => exact h.elim
    | cons y m =>
      obtain ⟨m', h1, h2⟩ := ih h.2
      exact ⟨y :: m', h1.cons y, h.1, h2⟩
  | swap x y l =>
    intro m h
    cases m with
    | nil => exact h.elim
    | cons a m =>
      cases m with
      | nil => exact h.2.elim
      | cons b m => exact ⟨b :: a :: m, .swap _ _ _, h.2.1, h.1, h.2.2⟩
  | trans _ _ ih1 ih2 =>
    intro m h
    obtain ⟨m1, h1, h2⟩ := ih1 h
    obtain ⟨m2, h3, h4⟩ := ih2 h2
    exact ⟨m2, h1.trans h3, h4⟩
theorem R2.filter {p : α → Bool} {q : β → Bool} (hpq : ∀ a b, R a b → p a = q b) : ∀ {l : List α} {m : List β}, R2 R l m → R2 R (l.filter p) (m.filter q)
  | [], [], h => h
  | a :: l, b :: m, h => by
    rw [List.filter_cons, List.filter_cons, hpq a b h.1]
    cases q b
    · exact R2.filter hpq h.2
    · exact ⟨h.1, R2.filter hpq h.2⟩
  | [], _ :: _, h => h.elim
  | _ :: _, [], h => h.elim
theorem R2.map {γ δ : Type} {S : γ → δ → Prop} {f : α → γ} {g : β → δ} (hfg : ∀ a b, R a b → S (f a) (g b)) : ∀ {l : List α} {m : List β}, R2 R l m → R2 S (l.map f) (m.map g)
  | [], [], h => h
  | _ :: _, _ :: _, h => ⟨hfg _ _ h.1, R2.map hfg h.2⟩
  | [], _ :: _, h => h.elim
  | _ :: _, [], h => h.elim
theorem R2.append {l2 : List α} {m2 : List β} (h2 : R2 R l2 m2) : ∀ {l : List α} {m : List β}, R2 R l m → R2 R (l ++ l2) (m ++ m2)
  | [], [], _ => h2
  | _ :: _, _ :: _, h => ⟨h.1, R2.append h2 h.2⟩
  | [], _ :: _, h => h.elim
  | _ :: _, [], h => h.elim
theorem R2.set {a : α} {b : β} (hab : R a b) : ∀ {l : List α} {m : List β}, R2 R l m → ∀ i, R2 R (l.set i a) (m.set i b)
  | [], [], _, _ => trivial
  | _ :: _, _ :: _, h, 0 => ⟨hab, h.2⟩
  | _ :: _, _ :: _, h, i + 1 => ⟨h.1, R2.set hab h.2 i⟩
  | [], _ :: _, h, _ => h.elim
  | _ :: _, [], h, _ => h.elim
theorem R2.pairwise {P : α → α → Prop} {P' : β → β → Prop} (hP : ∀ a b a' b', R a a' → R b b' → P a b → P' a' b') : ∀ {l : List α} {m : List β}, R2 R l m → l.Pairwise P → m.Pairwise P'
  | [], [], _, _ => List.Pairwise.nil
  | a :: l, b :: m, h, hp => by
    rw [List.pairwise_cons] at hp ⊢
    refine ⟨fun y hy => ?_, R2.pairwise hP h.2 hp.2⟩
    obtain ⟨i, hi⟩ := List.getElem?_of_mem hy
    have hil : i < l.length := by rw [h.2.len]; exact (List.getElem?_eq_some_iff.1 hi).1
    obtain ⟨y', hy', hr⟩ := h.2.at_ (List.getElem?_eq_getElem hil)
    rw [hi] at hy'; injection hy' with hy'; subst hy'
    exact hP _ _ _ _ h.1 hr (hp.1 _ (List.getElem_mem _))
  | [], _ :: _, h, _ => h.elim
  | _ :: _, [], h, _ => h.elim
end
end Go.Gv
/- Results that lie in memory. Conditions: those named in each theorem. -/
namespace Go.Proofs.Yteockodnfempfaa
open Go Go.RowKit Go.Gv
theorem results_cell_tmp {P : Program} {fn : Func} {α : Type} [Enc α] {a u : Tmp} {t : TypeId} {tmps : Array Value} {w : World} {ad : Addr} {x : α} (hres : fn.results = #[.cell a t, .tmp u]) (ha : tmps.getD a undef = .pointer (some ad)) (h1 : aggT P t = true) (h2 : sizeT P t = Enc.n α) (hg : get? α w ad = some x) :
    (results fn tmps).run P w = .ok (.tuple #[.agg (Enc.enc x).toArray, tmps.getD u undef]) w := by
  have hl := run_loadVar_get (P := P) h1 h2 hg
  simp only [Array.getD_eq_getD_getElem?] at ha
  simp [results, hres, ha, asAddr, hl]
theorem results_cell {P : Program} {fn : Func} {α : Type} [Enc α] {a : Tmp} {t : TypeId} {tmps : Array Value} {w : World} {ad : Addr} {x : α} (hres : fn.results = #[.cell a t]) (ha : tmps.getD a undef = .pointer (some ad)) (h1 : aggT P t = true) (h2 : sizeT P t = Enc.n α) (hg : get? α w ad = some x) :
    (results fn tmps).run P w = .ok (.agg (Enc.enc x).toArray) w := by
  have hl := run_loadVar_get (P := P) h1 h2 hg
  simp only [Array.getD_eq_getD_getElem?] at ha
  simp [results, hres, ha, asAddr, hl]
end Go.Proofs.Yteockodnfempfaa
/- Maps read as lists: lookup, update, length. Conditions: those named in each theorem. -/
namespace Go.Gv
open Go Go.RowKit
set_option linter.unusedSectionVars false
set_option linter.unusedSimpArgs false

/-! ### Maps as lists of keys and values, in the order of their coming -/
class KEnc (K : Type) where
  kv : K → Value
  kinj : ∀ a b, kv a = kv b → a = b
class VEnc (V : Type) where
  vv : V → Value
  vinj : ∀ a b, vv a = vv b → a = b
instance : KEnc Int := ⟨fun k => .int .i64 k, fun a b h => by injection h⟩
instance : KEnc ByteArray := ⟨fun k => .string k, fun a b h => by injection h⟩
instance : VEnc Int := ⟨fun k => .int .i64 k, fun a b h => by injection h⟩
instance : VEnc Bool := ⟨fun k => .bool k, fun a b h => by injection h⟩
instance : VEnc Hdr := ⟨fun k => k.val, fun a b h => by cases a; cases b; simp only [Hdr.val] at h; injection h with h1 h2 h3; simp_all⟩

section
variable {K V : Type} [DecidableEq K]
def mget (m : List (K × V)) (k : K) : Option V := (m.find? fun p => decide (p.1 = k)).map (·.2)
def mset (m : List (K × V)) (k : K) (v : V) : List (K × V) := if k ∈ m.map (·.1) then m.map fun p => if p.1 = k then (k, v) else p else m ++ [(k, v)]
def mdel (m : List (K × V)) (k : K) : List (K × V) := m.filter fun p => !decide (p.1 = k)

theorem mget_nil (k : K) : mget ([] : List (K × V)) k = none := rfl
theorem mget_cons (p : K × V) (m : List (K × V)) (k : K) : mget (p :: m) k = if p.1 = k then some p.2 else mget m k := by
  unfold mget
  by_cases h : p.1 = k <;> simp [List.find?_cons, h]
theorem mget_append (m n : List (K × V)) (k : K) : mget (m ++ n) k = (mget m k).or (mget n k) := by
  induction m with
  | nil => simp [mget_nil]
  | cons p m ih => simp only [List.cons_append, mget_cons]; split <;> simp_all
theorem mget_none {m : List (K × V)} {k : K} : mget m k = none ↔ k ∉ m.map (·.1) := by
  induction m with
  | nil => simp [mget_nil]
  | cons p m ih =>
    simp only [mget_cons, List.map_cons, List.mem_cons, not_or]
    by_cases h : p.1 = k
    · simp [h]
    · simp only [h, if_false, ih]
      exact ⟨fun h2 => ⟨fun e => h e.symm, h2⟩, fun h2 => h2.2⟩
theorem mget_mset_same (m : List (K × V)) (k : K) (v : V) : mget (mset m k v) k = some v := by
  unfold mset
  split
  · rename_i h
    induction m with
    | nil => simp at h
    | cons p m ih =>
      simp only [List.map_cons, mget_cons]
      by_cases hp : p.1 = k
      · simp [hp]
      · simp only [hp, if_false]
        exact ih (by simp only [List.map_cons, List.mem_cons] at h; rcases h with h | h; exact absurd h.symm hp; exact h)
  · rename_i h
    rw [mget_append, mget_none.2 h, mget_cons]; simp
theorem mget_mset_other (m : List (K × V)) {k k' : K} (v : V) (hne : k' ≠ k) : mget (mset m k v) k' = mget m k' := by
  unfold mset
  split
  · induction m with
    | nil => rfl
    | cons p m ih =>
      rename_i h
      have step : ∀ (q : List (K × V)), mget (q.map fun p => if p.1 = k then (k, v) else p) k' = mget q k' := by
        intro q
        induction q with
        | nil => rfl
        | cons a q ihq =>
          simp only [List.map_cons, mget_cons, ihq]
          by_cases ha : a.1 = k
          · have : ¬ a.1 = k' := fun e => hne (by rw [← e, ha])
            simp [ha, Ne.symm hne]
          · simp [ha]
      exact step _
  · rw [mget_append, mget_cons]
    simp only [Ne.symm hne, if_false, mget_nil]
    cases mget m k' <;> rfl
theorem mset_keys (m : List (K × V)) (k : K) (v : V) : (mset m k v).map (·.1) = if k ∈ m.map (·.1) then m.map (·.1) else m.map (·.1) ++ [k] := by
  unfold mset
  split
  · rw [List.map_map]
    apply List.map_congr_left
    intro p _
    simp only [Function.comp]
    split
    · rename_i h; exact h.symm
    · rfl
  · simp
theorem mset_nodup {m : List (K × V)} (h : (m.map (·.1)).Nodup) (k : K) (v : V) : ((mset m k v).map (·.1)).Nodup := by
  rw [mset_keys]
  split
  · exact h
  · rename_i hk
    rw [List.nodup_append]
    exact ⟨h, by simp, by intro a ha b hb; simp at hb; subst hb; intro e; exact hk (e ▸ ha)⟩
theorem mset_length_le (m : List (K × V)) (k : K) (v : V) : (mset m k v).length ≤ m.length + 1 := by
  unfold mset; split <;> simp
end

section
variable {K V : Type} [DecidableEq K] [KEnc K] [VEnc V]
/-- Block r is a map that holds m. -/
def MapIs (w : World) (r : Nat) (m : List (K × V)) : Prop :=
  ∃ es clock, w.heap[r]? = some (.map es clock) ∧ es.toList.map (fun e => (e.key, e.val)) = m.map (fun p => (KEnc.kv p.1, VEnc.vv p.2)) ∧ (m.map (·.1)).Nodup ∧
    es.toList.Pairwise (fun a b => a.born < b.born) ∧ ∀ e ∈ es.toList, e.born < clock

theorem MapIs.unique {w : World} {r : Nat} {m m' : List (K × V)} (h : MapIs w r m) (h' : MapIs w r m') : m = m' := by
  obtain ⟨es, c, hb, he, _⟩ := h
  obtain ⟨es', c', hb', he', _⟩ := h'
  rw [hb] at hb'
  injection hb' with hb'; injection hb' with e1 e2
  subst e1
  rw [he] at he'
  exact (List.map_inj_right (fun a b hab => by
    simp only [Prod.mk.injEq] at hab
    exact Prod.ext (KEnc.kinj _ _ hab.1) (VEnc.vinj _ _ hab.2))).1 he'
open Classical in
noncomputable def mapAt (K V : Type) [KEnc K] [VEnc V] (w : World) (r : Nat) : Option (List (K × V)) :=
  if h : ∃ m : List (K × V), MapIs w r m then some h.choose else none
theorem mapAt_iff {w : World} {r : Nat} {m : List (K × V)} : mapAt K V w r = some m ↔ MapIs w r m := by
  unfold mapAt
  constructor
  · intro h
    split at h
    · rename_i hx; have := hx.choose_spec; injection h with h; rwa [h] at this
    · cases h
  · intro h
    have hx : ∃ m : List (K × V), MapIs w r m := ⟨m, h⟩
    rw [dif_pos hx, MapIs.unique hx.choose_spec h]
theorem MapIs.keep {w w' : World} {r : Nat} {m : List (K × V)} (h : MapIs w r m) (hk : w'.heap[r]? = w.heap[r]?) : MapIs w' r m := by
  obtain ⟨es, c, hb, rest⟩ := h
  exact ⟨es, c, hk.trans hb, rest⟩
theorem MapIs.lt {w : World} {r : Nat} {m : List (K × V)} (h : MapIs w r m) : r < w.heap.size := by
  obtain ⟨es, c, hb, _⟩ := h
  exact (Array.getElem?_eq_some_iff.1 hb).1
theorem mapAt_keep {w w' : World} {r : Nat} (hk : w'.heap[r]? = w.heap[r]?) : mapAt K V w' r = mapAt K V w r := by
  have hiff : ∀ m : List (K × V), MapIs w' r m ↔ MapIs w r m := fun m => ⟨fun h => h.keep hk.symm, fun h => h.keep hk⟩
  have : ∀ y, mapAt K V w' r = some y ↔ mapAt K V w r = some y := fun y => by rw [mapAt_iff, mapAt_iff, hiff]
  cases h : mapAt K V w r with
  | some y => exact (this y).2 h
  | none =>
    cases h' : mapAt K V w' r with
    | none => rfl
    | some y => have := (this y).1 h'; rw [h] at this; cases this
theorem mapAt_lt {w : World} {r : Nat} {m : List (K × V)} (h : mapAt K V w r = some m) : r < w.heap.size := (mapAt_iff.1 h).lt
theorem mapAt_alloc {w : World} {r : Nat} {m : List (K × V)} (o : Obj) (h : mapAt K V w r = some m) : mapAt K V (w.alloc o) r = some m := (mapAt_keep (Below.heap_alloc _ _ _ (mapAt_lt h))).trans h
@[go_sem, simp] theorem mapAt_drew {w : World} {r : Nat} : mapAt K V w.drew r = mapAt K V w r := mapAt_keep rfl
@[go_sem, simp] theorem mapAt_drewN {w : World} {r : Nat} (n : Nat) : mapAt K V (w.drewN n) r = mapAt K V w r := mapAt_keep rfl
theorem mapAt_below {w w' : World} {B r : Nat} (hb : Below B w w') (hr : r < B) : mapAt K V w' r = mapAt K V w r := mapAt_keep (hb.block _ hr)
theorem mapAt_grown {w w' : World} {row : Option Nat} {r : Nat} {m : List (K × V)} (hg : w.grownBy w' row) (hne : some r ≠ row) (h : mapAt K V w r = some m) : mapAt K V w' r = some m := (mapAt_keep (hg.block _ (mapAt_lt h) hne)).trans h
theorem mapAt_new (K V : Type) [DecidableEq K] [KEnc K] [VEnc V] (w : World) : mapAt K V (w.alloc (.map #[] 0)) w.heap.size = some [] := by
  rw [mapAt_iff]
  exact ⟨#[], 0, heap_alloc_new w _, rfl, by simp, by simp, by simp⟩
theorem mapAt_nodup {w : World} {r : Nat} {m : List (K × V)} (h : mapAt K V w r = some m) : (m.map (·.1)).Nodup := by
  obtain ⟨_, _, _, _, hn, _⟩ := mapAt_iff.1 h; exact hn
@[go_sem] theorem mapAt_alloc_lt {w : World} {r : Nat} (o : Obj) (h : r < w.heap.size) : mapAt K V (w.alloc o) r = mapAt K V w r := mapAt_keep (Below.heap_alloc _ _ _ h)
theorem mapAt_setCell {w : World} {r : Nat} {m : List (K × V)} (p : Addr) (u : Value) (h : mapAt K V w r = some m) : mapAt K V (w.setCell p u) r = some m := by
  rw [mapAt_iff] at h ⊢
  obtain ⟨es, c, hb, rest⟩ := h
  refine ⟨es, c, ?_, rest⟩
  simp only [World.setCell, Array.getElem?_modify]
  split
  · rename_i e; subst e; rw [hb]; rfl
  · exact hb

/-- What the operations on maps need to know of a type of keys. -/
structure KeyLaws (P : Program) (tK : TypeId) (K : Type) [DecidableEq K] [KEnc K] : Prop where
  chk : ∀ (e : Bool) (k : K) (w : World), (Instr.checkKey e 10000 tK (KEnc.kv k)).run P w = .ok () w
  fnd : ∀ (k : K) (es : List MapEntry) (ks : List K) (w : World), es.map (·.key) = ks.map KEnc.kv →
    (Instr.findKey tK (KEnc.kv k) es).run P w = .ok ((ks.findIdx? fun x => decide (x = k)).bind fun i => (es[i]?).map fun e => (i, e.val)) w
  same : ∀ k : K, Instr.sameBits 10000 (KEnc.kv k) (KEnc.kv k) = true

theorem findIdx_none {ks : List K} {k : K} (h : k ∉ ks) : (ks.findIdx? fun x => decide (x = k)) = none := by
  rw [List.findIdx?_eq_none_iff]
  intro x hx
  simp only [decide_eq_false_iff_not]
  intro e; exact h (e ▸ hx)

variable {P : Program} {tK tM tV : TypeId}
theorem run_findAsking (he : ∀ (k k' : K) (w : World), (Op.equal tK (KEnc.kv k) (KEnc.kv k')).run P w = .ok (decide (k = k')) w) (k : K) (w : World) : ∀ (es : List MapEntry) (ks : List K) (i : Nat), es.map (·.key) = ks.map KEnc.kv →
    (Instr.findAsking tK (KEnc.kv k) es i).run P w = .ok ((ks.findIdx? fun x => decide (x = k)).bind fun j => (es[j]?).map fun e => (i + j, e.val)) w
  | [], [], i, _ => by simp [Instr.findAsking]
  | [], _ :: _, i, h => by simp at h
  | _ :: _, [], i, h => by simp at h
  | e :: es, x :: ks, i, h => by
    simp only [List.map_cons, List.cons.injEq] at h
    have ih := run_findAsking he k w es ks (i + 1) h.2
    simp only [Instr.findAsking, Sem.run_bind, h.1, he, Result.andThen_ok]
    by_cases hx : k = x
    · subst hx; simp [List.findIdx?_cons]
    · have hx' : ¬ x = k := fun e => hx e.symm
      simp only [hx, decide_false, Bool.false_eq_true, if_false, ih, List.findIdx?_cons, hx']
      cases hf : ks.findIdx? fun x => decide (x = k) with
      | none => rfl
      | some j => simp [Nat.add_assoc, Nat.add_comm 1 j]
theorem fnd_struct (he : ∀ (k k' : K) (w : World), (Op.equal tK (KEnc.kv k) (KEnc.kv k')).run P w = .ok (decide (k = k')) w) {d : TypeDesc} (hu : P.underlying tK = some d)
    (hn : ∀ k k' : K, Instr.sameNow d (KEnc.kv k) (KEnc.kv k') = none) (k : K) (es : List MapEntry) (ks : List K) (w : World) (h : es.map (·.key) = ks.map KEnc.kv) :
    (Instr.findKey tK (KEnc.kv k) es).run P w = .ok ((ks.findIdx? fun x => decide (x = k)).bind fun i => (es[i]?).map fun e => (i, e.val)) w := by
  simp only [Instr.findKey, Sem.run_bind, run_underlying hu, Result.andThen_ok]
  cases es with
  | nil =>
    cases ks with
    | nil => simp [Instr.findNow]
    | cons x ks => simp at h
  | cons e es =>
    cases ks with
    | nil => simp at h
    | cons x ks =>
      have h1 : e.key = KEnc.kv x := by simp only [List.map_cons, List.cons.injEq] at h; exact h.1
      simp only [Instr.findNow, h1, hn]
      have := run_findAsking he k w (e :: es) (x :: ks) 0 h
      rw [this]
      simp
theorem fnd_now {d : TypeDesc} (hu : P.underlying tK = some d) (hn : ∀ k k' : K, Instr.sameNow d (KEnc.kv k) (KEnc.kv k') = some (decide (k' = k))) (k : K) (es : List MapEntry) (ks : List K) (w : World) (h : es.map (·.key) = ks.map KEnc.kv) :
    (Instr.findKey tK (KEnc.kv k) es).run P w = .ok ((ks.findIdx? fun x => decide (x = k)).bind fun i => (es[i]?).map fun e => (i, e.val)) w := by
  have key : ∀ (es : List MapEntry) (ks : List K) (i : Nat), es.map (·.key) = ks.map KEnc.kv → Instr.findNow d (KEnc.kv k) es i = some ((ks.findIdx? fun x => decide (x = k)).bind fun j => (es[j]?).map fun e => (i + j, e.val)) := by
    intro es
    induction es with
    | nil => intro ks i h; cases ks <;> simp_all [Instr.findNow]
    | cons e es ih =>
      intro ks i h
      cases ks with
      | nil => simp at h
      | cons x ks =>
        simp only [List.map_cons, List.cons.injEq] at h
        simp only [Instr.findNow, h.1, hn]
        by_cases hx : x = k
        · subst hx; simp [List.findIdx?_cons]
        · simp only [hx, decide_false, ih ks (i + 1) h.2, List.findIdx?_cons, Bool.false_eq_true, if_false]
          cases hf : ks.findIdx? fun x => decide (x = k) with
          | none => rfl
          | some j => simp [Nat.add_assoc, Nat.add_comm 1 j]
  simp only [Instr.findKey, Sem.run_bind, run_underlying hu, Result.andThen_ok, key es ks 0 h]
  simp

theorem find_in {m : List (K × V)} (k : K) : (((m.map (·.1)).findIdx? fun x => decide (x = k)).bind fun i => m[i]?) = m.find? fun p => decide (p.1 = k) := by
  induction m with
  | nil => rfl
  | cons p m ih =>
    simp only [List.map_cons, List.findIdx?_cons, List.find?_cons]
    by_cases h : p.1 = k
    · simp [h]
    · simp only [h, decide_false, Bool.false_eq_true, if_false]
      rw [← ih]
      cases (List.map (fun x => x.1) m).findIdx? fun x => decide (x = k) <;> simp

/-- 'm[k]' and 'v, ok := m[k]'. -/
theorem run_lookup_map (L : KeyLaws P tK K) (hM : P.underlying tM = some (.map tK tV)) {z : Value} (hz : zeroT P tV = some z) {w : World} {r : Nat} {m : List (K × V)} (h : mapAt K V w r = some m) (k : K) (ok : Bool) :
    (Instr.lookup tM (.map (some r)) (KEnc.kv k) ok).run P w = .ok (if ok then .tuple #[((mget m k).map VEnc.vv).getD z, .bool (mget m k).isSome] else ((mget m k).map VEnc.vv).getD z) w := by
  obtain ⟨es, c, hb, he, hn, _⟩ := mapAt_iff.1 h
  have hk : es.toList.map (·.key) = (m.map (·.1)).map KEnc.kv := by
    have := congrArg (List.map Prod.fst) he
    simpa [List.map_map, Function.comp_def] using this
  have hl : es.toList.length = m.length := by have := congrArg List.length he; simpa using this
  have hf := L.fnd k es.toList (m.map (·.1)) w hk
  have hval : (((m.map (·.1)).findIdx? fun x => decide (x = k)).bind fun i => (es.toList[i]?).map fun e => (i, e.val)).map (·.2) = (mget m k).map VEnc.vv := by
    unfold mget
    rw [← find_in]
    cases hi : (m.map (·.1)).findIdx? fun x => decide (x = k) with
    | none => rfl
    | some i =>
      simp only [Option.bind_some]
      have hlt : i < m.length := by have := List.findIdx?_eq_some_iff_getElem.1 hi; simpa using this.1
      have h1 := congrArg (fun l => l[i]?) he
      simp only [List.getElem?_map] at h1
      rw [List.getElem?_eq_getElem hlt] at h1 ⊢
      rw [List.getElem?_eq_getElem (by omega)] at h1 ⊢
      simp only [Option.map_some, Option.some.injEq, Prod.mk.injEq] at h1 ⊢
      exact h1.2
  have hg : (getObj r).run P w = .ok (.map es c) w := by simp [getObj, Sem.run, hb]
  simp only [Instr.lookup, Sem.run_bind, run_underlying hM, Result.andThen_ok, hg, Sem.run_pure, L.chk, hf]
  cases hi : ((m.map (·.1)).findIdx? fun x => decide (x = k)).bind fun i => (es.toList[i]?).map fun e => (i, e.val) with
  | none =>
    rw [hi] at hval
    simp only [Option.map_none] at hval
    have : mget m k = none := by cases hq : mget m k with
      | none => rfl
      | some v => rw [hq] at hval; cases hval
    simp only [Sem.run_bind, run_zeroValue hz, Result.andThen_ok, Sem.run_pure, this]
    cases ok <;> rfl
  | some p =>
    rw [hi] at hval
    simp only [Option.map_some] at hval
    have : ∃ v, mget m k = some v ∧ VEnc.vv v = p.2 := by cases hq : mget m k with
      | none => rw [hq] at hval; cases hval
      | some v => rw [hq] at hval; simp at hval; exact ⟨v, rfl, hval.symm⟩
    obtain ⟨v, h1, h2⟩ := this
    simp only [Sem.run_pure, Result.andThen_ok, h1]
    cases ok <;> simp [h2]
theorem run_lookup_nil (hM : P.underlying tM = some (.map tK tV)) (L : KeyLaws P tK K) {z : Value} (hz : zeroT P tV = some z) (w : World) (k : K) (ok : Bool) :
    (Instr.lookup tM (.map none) (KEnc.kv k) ok).run P w = .ok (if ok then .tuple #[z, .bool false] else z) w := by
  have hf := L.fnd k [] [] w rfl
  simp only [List.findIdx?_nil, Option.bind_none] at hf
  have he : (#[] : Array MapEntry).toList = [] := rfl
  simp only [Instr.lookup, Sem.run_bind, run_underlying hM, Result.andThen_ok, Sem.run_pure, L.chk, he, hf, run_zeroValue hz]

/-- The world behind 'm[k] = v'. -/
noncomputable def mput (P : Program) (tM : TypeId) (w : World) (r : Nat) (k : K) (v : V) : World :=
  match (Instr.mapUpdate tM (.map (some r)) (KEnc.kv k) (VEnc.vv v)).run P w with
  | .ok _ w' => w'
  | .halt _ w' => w'
theorem run_mapUpdate_ex (L : KeyLaws P tK K) (hM : P.underlying tM = some (.map tK tV)) {w : World} {r : Nat} {m : List (K × V)} (h : mapAt K V w r = some m) (k : K) (v : V) :
    ∃ es c, (Instr.mapUpdate tM (.map (some r)) (KEnc.kv k) (VEnc.vv v)).run P w = .ok () { w with heap := w.heap.setIfInBounds r (.map es c) } ∧ MapIs { w with heap := w.heap.setIfInBounds r (.map es c) } r (mset m k v) := by
  obtain ⟨es, c, hb, he, hn, hp, hc⟩ := mapAt_iff.1 h
  have hlt : r < w.heap.size := (Array.getElem?_eq_some_iff.1 hb).1
  have hk : es.toList.map (·.key) = (m.map (·.1)).map KEnc.kv := by
    have := congrArg (List.map Prod.fst) he
    simpa [List.map_map, Function.comp_def] using this
  have hl : es.toList.length = m.length := by have := congrArg List.length he; simpa using this
  have hf := L.fnd k es.toList (m.map (·.1)) w hk
  have hg : (getObj r).run P w = .ok (.map es c) w := by simp [getObj, Sem.run, hb]
  have hs : ∀ o, (setObj r o).run P w = .ok () { w with heap := w.heap.setIfInBounds r o } := fun o => by simp [setObj, Sem.run, hb]
  by_cases hmem : k ∈ m.map (·.1)
  · cases hi : (m.map (·.1)).findIdx? fun x => decide (x = k) with
    | none =>
      rw [List.findIdx?_eq_none_iff] at hi
      have := hi k hmem
      simp at this
    | some i =>
      obtain ⟨hil, hik, _⟩ := List.findIdx?_eq_some_iff_getElem.1 hi
      have hlt' : i < m.length := by simpa using hil
      have hle : i < es.toList.length := by omega
      have hik' : m[i].1 = k := by simpa using hik
      have hkey : es.toList[i].key = KEnc.kv k := by
        have h1 := congrArg (fun l => l[i]?) hk
        simp only [List.getElem?_map] at h1
        rw [List.getElem?_eq_getElem hle, List.getElem?_eq_getElem hlt'] at h1
        simpa [hik'] using h1
      refine ⟨es.modify i fun e => { e with key := KEnc.kv k, val := VEnc.vv v }, c, ?_, ?_⟩
      · have hkey2 : ((es[i]?).map (·.key)).getD (KEnc.kv k) = KEnc.kv k := by
          rw [← Array.getElem?_toList, List.getElem?_eq_getElem hle]; simpa using hkey
        simp only [Instr.mapUpdate, Sem.run_bind, run_underlying hM, Result.andThen_ok, hg, L.chk, hf, hi, Option.bind_some, List.getElem?_eq_getElem hle, Option.map_some, hkey2, Instr.keyThatStays, L.same, if_true, Sem.run_pure, hs]
      · refine ⟨es.modify i fun e => { e with key := KEnc.kv k, val := VEnc.vv v }, c, by simp [hlt], ?_, mset_nodup hn k v, ?_, ?_⟩
        · apply List.ext_getElem?
          intro j
          unfold mset
          rw [if_pos hmem]
          simp only [List.getElem?_map, Array.getElem?_toList, Array.getElem?_modify]
          have h1 := congrArg (fun l => l[j]?) he
          simp only [List.getElem?_map, Array.getElem?_toList] at h1
          by_cases hj : i = j
          · subst hj
            simp only [if_true]
            rw [List.getElem?_eq_getElem hlt'] at h1 ⊢
            rw [← Array.getElem?_toList, List.getElem?_eq_getElem hle]
            simp [hik']
          · simp only [hj, if_false]
            rw [h1]
            cases hmj : m[j]? with
            | none => rfl
            | some p =>
              have hne : ¬ p.1 = k := by
                intro e
                have hjl : j < m.length := (List.getElem?_eq_some_iff.1 hmj).1
                have hpj : m[j] = p := (List.getElem?_eq_some_iff.1 hmj).2
                have := List.getElem_inj (xs := m.map (·.1)) (i := i) (j := j) (h₀ := by simpa using hlt') (h₁ := by simpa using hjl) hn
                apply hj
                apply this.1
                simp [hik', hpj, e]
              simp [hne]
        · have hb' : (es.modify i fun e => { e with key := KEnc.kv k, val := VEnc.vv v }).toList.map (·.born) = es.toList.map (·.born) := by
            apply List.ext_getElem?
            intro j
            simp only [List.getElem?_map, Array.getElem?_toList, Array.getElem?_modify]
            split
            · rename_i e; subst e; cases es[i]? <;> rfl
            · rfl
          have := (List.pairwise_map (f := fun e : MapEntry => e.born) (R := fun a b => a < b) (l := es.toList)).2 hp
          rw [← hb'] at this
          exact List.pairwise_map.1 this
        · intro e hem
          obtain ⟨j, hj⟩ := List.getElem?_of_mem hem
          simp only [Array.getElem?_toList, Array.getElem?_modify] at hj
          split at hj
          · cases hq : es[j]? with
            | none => rename_i e0; subst e0; rw [hq] at hj; cases hj
            | some q =>
              rename_i e0; subst e0
              rw [hq] at hj; simp at hj; subst hj
              exact hc q (by rw [← Array.getElem?_toList] at hq; exact List.mem_of_getElem? hq)
          · rw [← Array.getElem?_toList] at hj
            exact hc e (List.mem_of_getElem? hj)
  · refine ⟨es.push { key := KEnc.kv k, val := VEnc.vv v, born := c }, c + 1, ?_, ?_⟩
    · simp only [Instr.mapUpdate, Sem.run_bind, run_underlying hM, Result.andThen_ok, hg, L.chk, hf, findIdx_none hmem, Option.bind_none, hs]
    · refine ⟨es.push { key := KEnc.kv k, val := VEnc.vv v, born := c }, c + 1, by simp [hlt], ?_, mset_nodup hn k v, ?_, ?_⟩
      · unfold mset
        rw [if_neg hmem]
        simp [he]
      · simp only [Array.toList_push]
        rw [List.pairwise_append]
        exact ⟨hp, by simp, by intro a ha b hb2; simp at hb2; subst hb2; exact hc a ha⟩
      · intro e hem
        simp only [Array.toList_push, List.mem_append, List.mem_singleton] at hem
        rcases hem with hem | rfl
        · exact Nat.lt_succ_of_lt (hc e hem)
        · exact Nat.lt_succ_self _
section
variable (L : KeyLaws P tK K) (hM : P.underlying tM = some (.map tK tV)) {w : World} {r : Nat} {m : List (K × V)} (h : mapAt K V w r = some m) (k : K) (v : V)
include L hM h
theorem run_mapUpdate_map : (Instr.mapUpdate tM (.map (some r)) (KEnc.kv k) (VEnc.vv v)).run P w = .ok () (mput P tM w r k v) := by
  obtain ⟨es, c, h1, _⟩ := run_mapUpdate_ex L hM h k v
  unfold mput; rw [h1]
theorem mapAt_mput : mapAt K V (mput P tM w r k v) r = some (mset m k v) := by
  obtain ⟨es, c, h1, h2⟩ := run_mapUpdate_ex L hM h k v
  unfold mput; rw [h1]; exact mapAt_iff.2 h2
theorem mput_grown : w.grownBy (mput P tM w r k v) (some r) := by
  obtain ⟨es, c, h1, _⟩ := run_mapUpdate_ex L hM h k v
  unfold mput; rw [h1]
  refine ⟨rfl, rfl, rfl, by simp, fun j hj hne => ?_⟩
  show (w.heap.setIfInBounds r _)[j]? = _
  rw [Array.getElem?_setIfInBounds_ne (by intro e; exact hne (by rw [e]))]
theorem mput_size : (mput P tM w r k v).heap.size = w.heap.size := by
  obtain ⟨es, c, h1, _⟩ := run_mapUpdate_ex L hM h k v
  unfold mput; rw [h1]; simp
theorem mput_get (α : Type) [Enc α] (a : Addr) : get? α (mput P tM w r k v) a = get? α w a := by
  obtain ⟨es, c, h1, _⟩ := run_mapUpdate_ex L hM h k v
  obtain ⟨es0, c0, hb, _⟩ := mapAt_iff.1 h
  unfold mput; rw [h1]
  by_cases ha : a.block = r
  · have hno : ∀ (W : World) e c, W.heap[r]? = some (.map e c) → get? α W a = none := by
      intro W e c hW
      cases hq : get? α W a with
      | none => rfl
      | some x =>
        have h0 : (Enc.enc x)[0]? = some ((Enc.enc x)[0]'(by rw [Enc.len]; exact Enc.pos)) := List.getElem?_eq_getElem _
        have := get?_iff.1 hq 0 _ h0
        simp [World.cell?, add_block, ha, hW] at this
    rw [hno _ es c (by have := (Array.getElem?_eq_some_iff.1 hb).1; simp [this]), hno w es0 c0 hb]
  · refine get?_keep ?_
    show (w.heap.setIfInBounds r _)[a.block]? = _
    rw [Array.getElem?_setIfInBounds_ne (fun e => ha e.symm)]
theorem run_len_map (ty : TypeId) : (Builtin.len_ #[tM] ty #[.map (some r)]).run P w = .ok (.int .i64 (m.length : Int)) w := by
  obtain ⟨es, c, hb, he, _⟩ := mapAt_iff.1 h
  have hl : es.toList.length = m.length := by have := congrArg List.length he; simpa using this
  have hg : (getObj r).run P w = .ok (.map es c) w := by simp [getObj, Sem.run, hb]
  simp [Builtin.len_, run_underlying hM, hg, goInt, ← hl]
end
end

/-! ### Keys of integers, of strings; structs as keys -/
theorem run_checkKey_one {P : Program} {t : TypeId} {k : IntKind} (e : Bool) (n : Nat) (h : P.underlying t = some (.int k)) (w : World) (j : IntKind) (a : Int) : (Instr.checkKey e (n + 1) t (.int j a)).run P w = .ok () w := by
  simp [Instr.checkKey, run_underlying h]
theorem run_checkKey_str {P : Program} {t : TypeId} (e : Bool) (n : Nat) (h : P.underlying t = some .string) (w : World) (s : ByteArray) : (Instr.checkKey e (n + 1) t (.string s)).run P w = .ok () w := by
  simp [Instr.checkKey, run_underlying h]
theorem sameBits_int (n : Nat) (k : IntKind) (a : Int) : Instr.sameBits n (.int k a) (.int k a) = true := by cases n <;> simp [Instr.sameBits]
theorem sameBits_str (n : Nat) (s : ByteArray) : Instr.sameBits n (.string s) (.string s) = true := by
  have h : (s == s) = true := by rw [beq_toListBytes]; simp
  cases n <;> simp only [Instr.sameBits, h]
theorem keyLaws_int {P : Program} {t : TypeId} (h : P.underlying t = some (.int .i64)) : KeyLaws P t Int where
  chk := fun e k w => run_checkKey_one e 9999 h w .i64 k
  fnd := fnd_now h (fun k k' => by
    show some (k == k') = some (decide (k' = k))
    congr 1
    rw [Bool.eq_iff_iff, beq_iff_eq, decide_eq_true_eq]; exact eq_comm)
  same := fun k => sameBits_int _ _ _
theorem keyLaws_string {P : Program} {t : TypeId} (h : P.underlying t = some .string) : KeyLaws P t ByteArray where
  chk := fun e k w => run_checkKey_str e 9999 h w k
  fnd := fnd_now h (fun k k' => by
    show some (k == k') = some (decide (k' = k))
    congr 1
    rw [beq_toListBytes, bytes_beq, Bool.eq_iff_iff, decide_eq_true_eq, decide_eq_true_eq]; exact eq_comm)
  same := fun k => sameBits_str _ _
def chkFs (e : Bool) (n : Nat) (xs : Array Value) : List (TypeId × Nat) → Sem Unit
  | [] => pure ()
  | f :: fs => do
    let a ← part f.1 xs f.2
    Instr.checkKey e n f.1 a
    chkFs e n xs fs
theorem run_checkKey_struct {P : Program} {t : TypeId} (e : Bool) (n : Nat) (xs : Array Value) (w : World) (hu : P.underlying t = some (.struct (P.fieldsOf t))) (hb : noBlank P t = true) :
    (Instr.checkKey e (n + 1) t (.agg xs)).run P w = (chkFs e n xs (fieldTO P t)).run P w := by
  simp only [Instr.checkKey, Sem.run_bind, run_underlying hu, Result.andThen_ok]
  rw [← Array.forIn_toList]
  unfold fieldTO
  unfold noBlank at hb
  generalize (P.fieldsOf t).toList = fs at hb
  clear hu
  induction fs generalizing w with
  | nil => simp [chkFs]
  | cons f fs ih =>
    simp only [List.all_cons, Bool.and_eq_true, bne_iff_ne] at hb
    simp only [List.forIn_cons, List.map_cons, chkFs, Sem.run_bind, hb.1, ne_eq, not_false_eq_true, if_true]
    generalize (part f.type xs f.offset).run P w = r1
    cases r1 with
    | ok a w1 =>
      simp only [Result.andThen_ok]
      generalize (Instr.checkKey e n f.type a).run P w1 = r2
      cases r2 with
      | ok b w2 => simpa using ih w2 hb.2
      | halt x w2 => simp [Result.andThen]
    | halt x w1 => simp [Result.andThen]
theorem sameBits_cells (n : Nat) (cs : List Value) (_h1 : ∀ u ∈ cs, u.oneCell' = true) (h : ∀ u ∈ cs, Instr.sameBits n u u = true) : Instr.sameBits (n + 1) (.agg cs.toArray) (.agg cs.toArray) = true := by
  simp only [Instr.sameBits, beq_self_eq_true, Bool.true_and]
  rw [List.all_eq_true]
  intro p hp
  have : p.1 = p.2 ∧ p.1 ∈ cs := by
    have hz : cs.zip cs = cs.map fun x => (x, x) := by
      clear hp h _h1
      induction cs with
      | nil => rfl
      | cons a l ih => simp [ih]
    have hp' : p ∈ cs.zip cs := hp
    rw [hz] at hp'
    obtain ⟨x, hx, rfl⟩ := List.mem_map.1 hp'
    exact ⟨rfl, hx⟩
  rw [← this.1]; exact h _ this.2

/-! ### The operations, closed to simp -/
@[irreducible] def gLookup (t : TypeId) (m k : Value) (ok : Bool) : Sem Value := Instr.lookup t m k ok
@[irreducible] def gMapUpdate (t : TypeId) (m k v : Value) : Sem Unit := Instr.mapUpdate t m k v
@[irreducible] def noLookup (P : Program) (t : TypeId) (m k : Value) (ok : Bool) (w : World) : Result Value := (Instr.lookup t m k ok).run P w
@[irreducible] def noUpdate (P : Program) (t : TypeId) (m k v : Value) (w : World) : Result Unit := (Instr.mapUpdate t m k v).run P w
def okU (b : Bool) (w : World) (r : Result Unit) : Result Unit := if b then .ok () w else r
@[simp, go_sem] theorem okU_true (w : World) (r : Result Unit) : okU true w r = .ok () w := rfl
section
variable (ρ : Operand → Value) (dst : Option Tmp) (x y z : Operand) (ty : TypeId) (pos : String) (after : Array Edge) (guard : Option (Nat × Bool)) (t : TypeId)
theorem ex_lookup (ok : Bool) : execOp ρ { dst, op := .lookup t x y ok, type := ty, pos, after, guard } = (do pure (.value (← gLookup t (ρ x) (ρ y) ok))) := by unfold gLookup; rfl
theorem ex_mapUpdate : execOp ρ { dst, op := .mapUpdate t x y z, type := ty, pos, after, guard } = (do gMapUpdate t (ρ x) (ρ y) (ρ z); pure .skip) := by unfold gMapUpdate; rfl
end
section
variable {K V : Type} [DecidableEq K] [KEnc K] [VEnc V] {P : Program} {tK tM tV : TypeId}
theorem run_gLookup (L : KeyLaws P tK K) (hM : P.underlying tM = some (.map tK tV)) {d : V} (hz : zeroT P tV = some (VEnc.vv d)) (w : World) (r : Nat) (k : K) :
    (gLookup tM (.map (some r)) (KEnc.kv k) false).run P w = ofOpt ((mapAt K V w r).map fun m => VEnc.vv ((mget m k).getD d)) w (noLookup P tM (.map (some r)) (KEnc.kv k) false w) := by
  cases h : mapAt K V w r with
  | none => unfold gLookup noLookup; rfl
  | some m =>
    unfold gLookup
    rw [run_lookup_map L hM hz h]
    simp only [Bool.false_eq_true, if_false, Option.map_some, ofOpt_some]
    cases mget m k <;> rfl
theorem run_gLookup_ok (L : KeyLaws P tK K) (hM : P.underlying tM = some (.map tK tV)) {d : V} (hz : zeroT P tV = some (VEnc.vv d)) (w : World) (r : Nat) (k : K) :
    (gLookup tM (.map (some r)) (KEnc.kv k) true).run P w = ofOpt ((mapAt K V w r).map fun m => .tuple #[VEnc.vv ((mget m k).getD d), .bool (mget m k).isSome]) w (noLookup P tM (.map (some r)) (KEnc.kv k) true w) := by
  cases h : mapAt K V w r with
  | none => unfold gLookup noLookup; rfl
  | some m =>
    unfold gLookup
    rw [run_lookup_map L hM hz h]
    simp only [if_true, Option.map_some, ofOpt_some]
    cases mget m k <;> rfl
theorem run_gLookup_nil (L : KeyLaws P tK K) (hM : P.underlying tM = some (.map tK tV)) {d : V} (hz : zeroT P tV = some (VEnc.vv d)) (w : World) (k : K) :
    (gLookup tM (.map none) (KEnc.kv k) false).run P w = .ok (VEnc.vv d) w := by
  unfold gLookup
  rw [run_lookup_nil hM L hz]
  rfl
theorem run_gMapUpdate (L : KeyLaws P tK K) (hM : P.underlying tM = some (.map tK tV)) (w : World) (r : Nat) (k : K) (v : V) :
    (gMapUpdate tM (.map (some r)) (KEnc.kv k) (VEnc.vv v)).run P w = okU ((mapAt K V w r).isSome) (mput P tM w r k v) (noUpdate P tM (.map (some r)) (KEnc.kv k) (VEnc.vv v) w) := by
  cases h : mapAt K V w r with
  | none => unfold gMapUpdate noUpdate; rfl
  | some m => unfold gMapUpdate; rw [run_mapUpdate_map L hM h k v]; rfl
end
end Go.Gv
/- Ranging over a map that reads as a list. Conditions: those named in each theorem. -/
namespace Go.Gv
open Go Go.RowKit Go.ChangeMaps Go.MapKept
set_option linter.unusedSectionVars false

theorem leftOf_push (es : Array MapEntry) (seen : Array Nat) (k : Nat) : (leftOf es (seen.push k)).toList = (leftOf es seen).toList.filter fun x => !(x.born == k) := by
  unfold leftOf
  rw [Array.toList_filter, Array.toList_filter, List.filter_filter]
  apply List.filter_congr
  intro x _
  rw [Go.contains_push]
  cases seen.contains x.born <;> cases (x.born == k) <;> rfl
theorem filter_born {a b : List MapEntry} {e : MapEntry} (hp : (a ++ e :: b).Pairwise fun x y => x.born < y.born) : (a ++ e :: b).filter (fun x => !(x.born == e.born)) = a ++ b := by
  rw [List.pairwise_append] at hp
  obtain ⟨_, h2, h3⟩ := hp
  rw [List.pairwise_cons] at h2
  rw [List.filter_append, List.filter_cons]
  have ha : a.filter (fun x => !(x.born == e.born)) = a := by
    rw [List.filter_eq_self]
    intro x hx
    have := h3 x hx e (by simp)
    simp; omega
  have hb : b.filter (fun x => !(x.born == e.born)) = b := by
    rw [List.filter_eq_self]
    intro x hx
    have := h2.1 x hx
    simp; omega
  simp [ha, hb]
section
variable {K V : Type} [DecidableEq K] [KEnc K] [VEnc V] {P : Program} {w w' : World} {r it : Nat} {m left : List (K × V)}
/-- Block it is an iterator over the map in block r, which reads as m; left: what is still to come. -/
def Ranges (w : World) (r it : Nat) (m left : List (K × V)) : Prop :=
  ∃ es clock since seen c0, w.heap[r]? = some (.map es clock) ∧ es.toList.map (fun e => (e.key, e.val)) = m.map (fun p => (KEnc.kv p.1, VEnc.vv p.2)) ∧ (m.map (·.1)).Nodup ∧
    es.toList.Pairwise (fun a b => a.born < b.born) ∧ (∀ e ∈ es.toList, e.born < clock) ∧
    w.heap[it]? = some (.mapIter (some r) since seen c0) ∧ (∀ x ∈ es.toList, x.born < since) ∧ since ≤ c0 ∧ since ≤ clock ∧
    (leftOf es seen).toList.map (fun e => (e.key, e.val)) = left.map (fun p => (KEnc.kv p.1, VEnc.vv p.2))
theorem Ranges.is (h : Ranges w r it m left) : mapAt K V w r = some m := by
  obtain ⟨es, clock, since, seen, c0, hb, he, hn, hp, hc, _⟩ := h
  exact mapAt_iff.2 ⟨es, clock, hb, he, hn, hp, hc⟩
theorem Ranges.lt (h : Ranges w r it m left) : it < w.heap.size := by
  obtain ⟨es, clock, since, seen, c0, _, _, _, _, _, hi, _⟩ := h
  exact (Array.getElem?_eq_some_iff.1 hi).1
theorem Ranges.ne (h : Ranges w r it m left) : it ≠ r := by
  obtain ⟨es, clock, since, seen, c0, hb, _, _, _, _, hi, _⟩ := h
  intro e
  rw [e, hb] at hi
  cases hi
theorem Ranges.leftN (h : Ranges w r it m left) : w.rangeLeft r it = left.length := by
  obtain ⟨es, clock, since, seen, c0, hb, _, _, _, _, hi, _, _, _, hl⟩ := h
  simp only [World.rangeLeft, hb, hi]
  have := congrArg List.length hl
  simpa using this
theorem Ranges.kept {row : Option Nat} (h : Ranges w r it m left) (hg : w.grownBy w' row) (hr : some r ≠ row) (hi : some it ≠ row) : Ranges w' r it m left := by
  have h1 := mapAt_lt h.is
  have h2 := h.lt
  obtain ⟨es, clock, since, seen, c0, hb, he, hn, hp, hc, hit, rest⟩ := h
  exact ⟨es, clock, since, seen, c0, (hg.block r h1 hr).trans hb, he, hn, hp, hc, (hg.block it h2 hi).trans hit, rest⟩
theorem Ranges.below (h : Ranges w r it m left) (hb : Below w.heap.size w w') : Ranges w' r it m left := by
  have h1 := mapAt_lt h.is
  have h2 := h.lt
  obtain ⟨es, clock, since, seen, c0, hbk, he, hn, hp, hc, hit, rest⟩ := h
  exact ⟨es, clock, since, seen, c0, (hb.block r h1).trans hbk, he, hn, hp, hc, (hb.block it h2).trans hit, rest⟩
/-- 'range m'. -/
theorem ranges_start {tM tK tV : TypeId} (hM : P.underlying tM = some (.map tK tV)) (h : mapAt K V w r = some m) :
    ∃ o, (Instr.range tM (.map (some r))).run P w = .ok (.pointer (some ⟨w.heap.size, 0, none⟩)) (w.alloc o) ∧ Ranges (w.alloc o) r w.heap.size m m := by
  have hlt := mapAt_lt h
  obtain ⟨es, clock, hb, he, hn, hp, hc⟩ := mapAt_iff.1 h
  refine ⟨_, run_range_map w tM tK tV r es clock hM hb, es, clock, clock, #[], clock, (Go.heap_alloc_old w _ hlt).trans hb, he, hn, hp, hc, Go.heap_alloc_new w _, hc, Nat.le_refl _, Nat.le_refl _, ?_⟩
  rw [← he]
  unfold leftOf
  rw [Array.toList_filter, List.filter_eq_self.2 (by intro x _; simp)]
/-- The step: nothing is left, or one that is left comes, whichever. -/
theorem Ranges.next (P : Program) (h : Ranges w r it m left) :
    (left = [] ∧ ∀ ty : TypeId, (Instr.next (.pointer (some ⟨it, 0, none⟩)) false ty).run P w = .ok (.tuple #[.bool false]) w) ∨
    ∃ l1 p l2 w', left = l1 ++ p :: l2 ∧ (∀ ty : TypeId, (Instr.next (.pointer (some ⟨it, 0, none⟩)) false ty).run P w = .ok (.tuple #[.bool true, KEnc.kv p.1, VEnc.vv p.2]) w') ∧ Ranges w' r it m (l1 ++ l2) ∧
      w.grownBy w' (some it) ∧ w'.heap.size = w.heap.size ∧ (Instr.entry (.pointer (some ⟨it, 0, none⟩))).run P w' = .ok (.tuple #[KEnc.kv p.1, VEnc.vv p.2]) w' := by
  have hne := h.ne
  obtain ⟨es, clock, since, seen, c0, hb, he, hn, hp, hc, hit, hold, hsc, hsk, hl⟩ := h
  rcases run_next_at (P := P) w 0 it r since c0 seen es clock hit hb hold hsc with ⟨h0, hrun⟩ | ⟨e, hel, w1, hal, hrun⟩
  · refine .inl ⟨?_, fun _ => hrun⟩
    have := congrArg List.length hl
    simp only [List.length_map, Array.length_toList, h0] at this
    exact List.eq_nil_of_length_eq_zero this.symm
  · obtain ⟨hem, hes⟩ := mem_left hel
    obtain ⟨a, b, hab⟩ := List.append_of_mem hel
    have hl2 := hl
    rw [hab, List.map_append, List.map_cons] at hl2
    obtain ⟨l1, lr, rfl, e1, e2⟩ := List.map_eq_append_iff.1 hl2.symm
    obtain ⟨p, l2, rfl, e3, e4⟩ := List.map_eq_cons_iff.1 e2
    simp only [Prod.mk.injEq] at e3
    have hr1 : w1.heap[it]? = some (.mapIter (some r) since seen c0) := by rcases hal with rfl | rfl <;> exact hit
    have hb1 : w1.heap[r]? = some (.map es clock) := by rcases hal with rfl | rfl <;> exact hb
    have hset := heap_set (o' := .mapIter (some r) since (seen.push e.born) clock) hr1
    have hb' : (setBlock w1 it (.mapIter (some r) since (seen.push e.born) clock)).heap[r]? = some (.map es clock) := (hset.2 r (fun e1 => hne e1.symm)).trans hb1
    have hborn : (es.toList.map (·.born)).Nodup := by
      rw [List.Nodup, List.pairwise_map]
      exact hp.imp fun h => by omega
    refine .inr ⟨l1, p, l2, _, rfl, fun ty => by rw [e3.1, e3.2]; exact hrun, ⟨es, clock, since, seen.push e.born, clock, hb', he, hn, hp, hc, hset.1, hold, hsk, hsk, ?_⟩, ?_, ?_, ?_⟩
    · rw [leftOf_push, hab, filter_born, List.map_append, List.map_append, e1, e4]
      rw [← hab]
      unfold leftOf
      rw [Array.toList_filter]
      exact hp.filter _
    · rcases hal with rfl | rfl <;> exact ⟨rfl, rfl, rfl, by simp [setBlock], fun i _ hi => hset.2 i (fun e1 => hi (by rw [e1]))⟩
    · rcases hal with rfl | rfl <;> simp [setBlock]
    · rw [e3.1, e3.2]
      exact run_entry_at _ it r since seen es clock e hset.1 hb' hem hborn
end
end Go.Gv
/- Slices of the call that it owns: append, one-element slices, struct literals. Conditions: those named in each theorem. -/
namespace Go.Gv
open Go Go.RowKit
set_option linter.unusedSectionVars false

/-- What an append wants to know of a slice's type. -/
structure ElemI (P : Program) (t e : TypeId) (α : Type) [Enc α] (by8 : Nat) : Prop where
  ht : P.underlying t = some (.slice e)
  ex : (P.info? e).map (fun i => (i.size, i.bytes, i.zero.map fun z => z.cells.size)) = some (Enc.n α, by8, some (Enc.n α))

/-- v is a slice of the call's own that holds xs. -/
def OwnS {α : Type} [Enc α] (w : World) (base : Nat) (e : TypeId) (v : Value) (xs : List α) : Prop := w.ownsRow base e (Enc.n α) v xs.length (xs.flatMap Enc.enc)

section
variable {α : Type} [Enc α] {w w' : World} {base B : Nat} {e t : TypeId} {v : Value} {xs ys : List α} {P : Program}
theorem OwnS.nil (w : World) (base : Nat) (e : TypeId) : OwnS w base e (.slice none 0 0) ([] : List α) := World.ownsRow_nil _ _ _ _
theorem OwnS.kept {row : Option Nat} (h : OwnS w base e v xs) (hg : w.grownBy w' row) (hne : v.ownBlock = none ∨ v.ownBlock ≠ row) : OwnS w' base e v xs := World.ownsRow.kept h hg hne
theorem OwnS.alloc (h : OwnS w base e v xs) (o : Obj) : OwnS (w.alloc o) base e v xs := World.ownsRow.alloc h o
theorem OwnS.lt (h : OwnS w base e v xs) : ∀ k, v.ownBlock = some k → base ≤ k ∧ k < w.heap.size := World.ownsRow.lt h
theorem OwnS.below {B : Nat} (h : OwnS w base e v xs) (hb : Below B w w') (hB : w.heap.size ≤ B) : OwnS w' base e v xs := by
  refine h.kept (row := none) ⟨hb.os, hb.tape, hb.output, hb.size, fun k hk _ => hb.block k (by omega)⟩ ?_
  cases v.ownBlock <;> simp
theorem OwnS.drew (h : OwnS w base e v xs) : OwnS w.drew base e v xs := h
theorem OwnS.drewN (h : OwnS w base e v xs) (n : Nat) : OwnS (w.drewN n) base e v xs := h
theorem OwnS.mono {base' : Nat} (h : OwnS w base e v xs) (hb : base' ≤ base) : OwnS w base' e v xs := by
  refine ⟨h.1, ?_⟩
  rcases h.2 with h | ⟨g, cap, cur, h1, h2, h3⟩
  · exact .inl h
  · exact .inr ⟨g, cap, cur, h1, by omega, h3⟩
/-- Its value, written out; and what it reads as. -/
theorem OwnS.shape (h : OwnS w base e v xs) : ∃ A c, v = .slice A xs.length c ∧ Sl α w w.heap.size A xs.length xs ∧ xs.length ≤ c ∧ c ≤ maxLen ∧ (∀ ad, A = some ad → base ≤ ad.block ∧ ad = ⟨ad.block, 0, none⟩ ∧ blkFree w ad.block = true) := by
  rcases h.2 with ⟨rfl, h0⟩ | ⟨g, cap, cur, rfl, hb, hh, hc, hm, hsz, htake⟩
  · have : xs = [] := List.eq_nil_of_length_eq_zero h0
    subst this
    exact ⟨none, 0, rfl, Sl.nil, Nat.le_refl _, Nat.zero_le _, fun ad h => by cases h⟩
  · have hlt : g < w.heap.size := (Array.getElem?_eq_some_iff.1 hh).1
    refine ⟨some ⟨g, 0, none⟩, cap, rfl, Sl.of_row hh htake rfl hlt, hc, hm, fun ad h => ?_⟩
    injection h with h; subst h
    exact ⟨hb, rfl, by unfold blkFree; rw [hh]; rfl⟩
theorem flat_get {xs : List α} {j : Nat} {u : Value} (h : (xs.flatMap Enc.enc)[j]? = some u) : ∃ k i x, xs[k]? = some x ∧ (Enc.enc x)[i]? = some u ∧ j = k * Enc.n α + i := by
  induction xs generalizing j with
  | nil => simp at h
  | cons x xs ih =>
    rw [List.flatMap_cons] at h
    by_cases hj : j < Enc.n α
    · rw [List.getElem?_append_left (by rw [Enc.len]; exact hj)] at h
      exact ⟨0, j, x, rfl, h, by omega⟩
    · rw [List.getElem?_append_right (by rw [Enc.len]; omega), Enc.len] at h
      obtain ⟨k, i, y, h1, h2, h3⟩ := ih h
      exact ⟨k + 1, i, y, h1, h2, by rw [Nat.add_mul]; omega⟩
theorem Sl.flat {A : Option Addr} {m : Nat} (h : Sl α w B A m xs) (hm : 0 < m) : ∃ ad, A = some ad ∧ ∀ j u, (xs.flatMap Enc.enc)[j]? = some u → w.cell? (ad.add j) = some u := by
  obtain ⟨ad, e, _, hc⟩ := h.2 hm
  refine ⟨ad, e, fun j u hu => ?_⟩
  obtain ⟨k, i, x, h1, h2, rfl⟩ := flat_get hu
  have := get?_iff.1 (hc k x h1) i u h2
  rwa [add_add] at this
theorem flat_one (xs : List α) : ∀ u ∈ xs.flatMap Enc.enc, u.oneCell' = true := by
  intro u hu
  obtain ⟨x, _, h⟩ := List.mem_flatMap.1 hu
  exact Enc.one x u h
theorem run_append_nil {by8 : Nat} (E : ElemI P t e α by8) (hown : OwnS w base e v xs) (ty : TypeId) (c : Nat) : (Builtin.append_ #[t, t] ty #[v, .slice none 0 c]).run P w = .ok v w := by
  obtain ⟨i, hi, hx⟩ := Option.map_eq_some_iff.1 E.ex
  rcases hown.2 with ⟨rfl, _⟩ | ⟨g, cap, cur, rfl, _, _, hnc, _⟩
  · simp [Builtin.append_, run_underlying E.ht, sizeOf, typeInfo, hi, Builtin.lenOf, Builtin.firstCells]
  · simp [Builtin.append_, run_underlying E.ht, sizeOf, typeInfo, hi, Builtin.lenOf, Builtin.firstCells, hnc, storeCells]
theorem run_append_S {by8 : Nat} (E : ElemI P t e α by8) (hown : OwnS w base e v xs) {A : Option Addr} {m c : Nat} (hr : Sl α w B A m ys) (h63 : xs.length + m ≤ maxLen) (hbytes : (xs.length + m) * by8 ≤ 140737488355328) (hbase : base ≤ w.heap.size) (hA : m = 0 → A = none ∨ A ≠ none) (ty : TypeId) :
    ∃ v' w', (Builtin.append_ #[t, t] ty #[v, .slice A m c]).run P w = .ok v' w' ∧ OwnS w' base e v' (xs ++ ys) ∧ w.grownBy w' v.ownBlock ∧ (v'.ownBlock = v.ownBlock ∨ v'.ownBlock = some w.heap.size) := by
  obtain ⟨i, hi, hx⟩ := Option.map_eq_some_iff.1 E.ex
  simp only [Prod.mk.injEq, Option.map_eq_some_iff] at hx
  obtain ⟨h1, h2, z, h3, h4⟩ := hx
  have hl := hr.1
  cases A with
  | none =>
    have hm : m = 0 := by
      rcases Nat.eq_zero_or_pos m with h0 | h0
      · exact h0
      · obtain ⟨ad, h, _⟩ := hr.2 h0; cases h
    subst hm
    have : ys = [] := List.eq_nil_of_length_eq_zero hl
    subst this
    exact ⟨v, w, run_append_nil E hown ty c, by simpa using hown, ⟨rfl, rfl, rfl, Nat.le_refl _, fun _ _ _ => rfl⟩, .inl rfl⟩
  | some ad =>
    have hcells : ∀ j u, (ys.flatMap Enc.enc)[j]? = some u → w.cell? (ad.add j) = some u := by
      intro j u hu
      rcases Nat.eq_zero_or_pos m with h0 | h0
      · subst h0
        have : ys = [] := List.eq_nil_of_length_eq_zero hl
        subst this; simp at hu
      · obtain ⟨ad', h, hc⟩ := hr.flat h0
        injection h with h; subst h
        exact hc j u hu
    obtain ⟨v', w', hrun, g1, g2, _, g3⟩ := run_append_own_at (P := P) w base t ty e i z (Enc.n α) by8 E.ht hi h3 h1 h2 h4 Enc.pos v xs.length _ hown ad m c (ys.flatMap Enc.enc) (by rw [flat_len, hl]) hcells (flat_one ys) h63 hbytes hbase
    refine ⟨v', w', hrun, ?_, g2, g3⟩
    unfold OwnS
    rw [List.flatMap_append, List.length_append, hl]
    exact g1

theorem wp_append_S {o : Oper} {a : Act} {K : Act → World → Prop} {Q : Exit → Act → World → Prop} (s x : Operand) (t : TypeId) {by8 : Nat}
    (ho : o.op = .call { callee := .builtin .append, args := #[s, x], argTypes := #[t, t] }) (E : ElemI P t e α by8)
    (hs : a.eval s = v) (hown : OwnS w base e v xs) {A : Option Addr} {m c : Nat} (hx : a.eval x = .slice A m c) (hr : Sl α w B A m ys) (h63 : xs.length + m ≤ maxLen) (hbytes : (xs.length + m) * by8 ≤ 140737488355328) (hbase : base ≤ w.heap.size)
    (h : ∀ v' w', OwnS w' base e v' (xs ++ ys) → w.grownBy w' v.ownBlock → (v'.ownBlock = v.ownBlock ∨ v'.ownBlock = some w.heap.size) → K (a.put o.dst v') w') : o.wp P a w K Q := by
  obtain ⟨v', w', hrun, h2, h3, h4⟩ := run_append_S E hown hr h63 hbytes hbase (fun _ => by cases A <;> simp) o.type
  unfold Oper.wp execOp
  simp only [ho, resolve, invoke, builtin, Sem.run_bind, Sem.run_pure, Result.andThen_ok, List.map_toArray, List.map_cons, List.map_nil, hs, hx]
  erw [hrun]
  exact h v' w' h2 h3 h4
theorem wpList_append_S {ops : Array Oper} {rest : List Oper} {o : Oper} {a : Act} {Q : Exit → Act → World → Prop} (hgd : o.guard = none) (s x : Operand) (t : TypeId) {by8 : Nat}
    (ho : o.op = .call { callee := .builtin .append, args := #[s, x], argTypes := #[t, t] }) (E : ElemI P t e α by8)
    (hs : a.eval s = v) (hown : OwnS w base e v xs) {A : Option Addr} {m c : Nat} (hx : a.eval x = .slice A m c) (hr : Sl α w B A m ys) (h63 : xs.length + m ≤ maxLen) (hbytes : (xs.length + m) * by8 ≤ 140737488355328) (hbase : base ≤ w.heap.size)
    (h : ∀ v' w', OwnS w' base e v' (xs ++ ys) → w.grownBy w' v.ownBlock → (v'.ownBlock = v.ownBlock ∨ v'.ownBlock = some w.heap.size) → wpList P ops Q rest (a.put o.dst v') w') : wpList P ops Q (o :: rest) a w :=
  wpList_plain hgd fun _ hK => wp_append_S s x t ho E hs hown hx hr h63 hbytes hbase fun v' w' h2 h3 h4 => hK _ _ (h v' w' h2 h3 h4)
theorem step_append_S {ops : Array Oper} {o : Oper} {a : Act} {K : Act → World → Prop} {Q : Exit → Act → World → Prop} {F : Prop} (hgd : o.guard = none) (s x : Operand) (t : TypeId) {by8 : Nat}
    (ho : o.op = .call { callee := .builtin .append, args := #[s, x], argTypes := #[t, t] }) (E : ElemI P t e α by8)
    (hs : a.eval s = v) (hown : OwnS w base e v xs) {A : Option Addr} {m c : Nat} (hx : a.eval x = .slice A m c) (hr : Sl α w B A m ys) (h63 : xs.length + m ≤ maxLen) (hbytes : (xs.length + m) * by8 ≤ 140737488355328) (hbase : base ≤ w.heap.size)
    (h : ∀ v' w', OwnS w' base e v' (xs ++ ys) → w.grownBy w' v.ownBlock → (v'.ownBlock = v.ownBlock ∨ v'.ownBlock = some w.heap.size) → K (a.put o.dst v') w') :
    if Region.wanted o (yielded ops a.tmps) = true then Oper.wp P o a w K Q else F := by
  have hw : Region.wanted o (yielded ops a.tmps) = true := by simp [Region.wanted, hgd]
  rw [if_pos hw]
  exact wp_append_S s x t ho E hs hown hx hr h63 hbytes hbase h
/-- The world behind an append onto a slice of the call's own. -/
theorem Below.appS {B0 : Nat} {w0 : World} (h : Below B0 w0 w) (hg : w.grownBy w' v.ownBlock) (hown : OwnS w base e v xs) (hb : B0 ≤ base) (hB : B0 ≤ w.heap.size) : Below B0 w0 w' :=
  h.grown hg hB fun k hk => Nat.le_trans hb (hown.lt k hk).1
theorem cell_off {a : Addr} {j : Nat} {u : Value} (hj : 0 < j) (h : w.cell? (a.add j) = some u) : w.cell? ⟨a.block, a.off + j, none⟩ = some u := by
  have : a.add j = ⟨a.block, a.off + j, none⟩ := by unfold Addr.add; rw [if_neg (by omega)]
  rwa [this] at h
theorem cell_zero {a : Addr} {u : Value} (h : w.cell? (a.add 0) = some u) : w.cell? a = some u := by simpa [Addr.add] using h
end

/-! ### A new slice of structs, written out -/
theorem run_underlying' {P : Program} {t : TypeId} {d : TypeDesc} (h : P.underlying t = some d) (w : World) : (underlying t).run P w = .ok d w := run_underlying h w
section
variable {α : Type} [Enc α] {P : Program} {t e : TypeId}
theorem fill_one {n : Nat} (z cs : Array Value) (_hz : z.size = n) (hc : cs.size = n) (_hn : 0 < n) : Instr.fill (fun i => some (i * n, n)) ((Array.range (1 * n)).map (fun x => z[x % z.size]!)) [(0, .agg cs)] = some cs := by
  simp only [Instr.fill, Value.cells, hc, ne_eq, not_true_eq_false, Nat.zero_mul, Nat.zero_add, decide_false, Bool.false_or, Nat.one_mul]
  rw [if_neg (by simp)]
  congr 1
  have key : ∀ (k : Nat) (X : Array Value), X.size = n → (cs.zipIdx.toList.take k).foldl (fun (a : Array Value) (p : Value × Nat) => a.setIfInBounds p.2 p.1) X = ((cs.toList.take k) ++ X.toList.drop (min k n)).toArray := by
    intro k X hX
    induction k with
    | zero => simp
    | succ k ih =>
      by_cases hk : k < n
      · have hzk : cs.zipIdx.toList.take (k + 1) = cs.zipIdx.toList.take k ++ [(cs[k]'(by omega), k)] := by
          rw [List.take_succ_eq_append_getElem (by simpa [hc] using hk)]
          simp
        rw [hzk, List.foldl_append, ih, List.foldl_cons, List.foldl_nil]
        have e2 : cs.toList.take (k + 1) = cs.toList.take k ++ [cs[k]'(by omega)] := by
          rw [List.take_succ_eq_append_getElem (by simpa [hc] using hk)]
          simp
        have hXk : X.toList.drop (min k n) = X[k]'(by omega) :: X.toList.drop (k + 1) := by
          rw [Nat.min_eq_left (by omega), List.drop_eq_getElem_cons (by simpa [hX] using hk)]
          simp
        rw [e2, hXk]
        apply Array.ext'
        have hlen : (cs.toList.take k).length = k := by simp; omega
        simp only [Array.toList_setIfInBounds]
        rw [List.set_append_right _ _ (by rw [hlen]; exact Nat.le_refl _), hlen, Nat.sub_self, List.set_cons_zero, Nat.min_eq_left (by omega)]
        simp
      · rw [List.take_of_length_le (by simp [hc]; omega)] at ih ⊢
        rw [ih, Nat.min_eq_right (by omega), Nat.min_eq_right (by omega), List.take_of_length_le (by simp [hc]; omega), List.take_of_length_le (by simp [hc]; omega)]
  have h0 := key n ((Array.range n).map (fun x => z[x % z.size]!)) (by simp)
  rw [List.take_of_length_le (by simp [hc]), List.take_of_length_le (by simp [hc]), Nat.min_self, List.drop_eq_nil_of_le (by simp), List.append_nil] at h0
  rw [← Array.foldl_toList]
  simpa using h0
theorem run_buildSlice_one {by8 : Nat} (E : ElemI P t e α by8) (hsmall : Enc.n α ≤ 16777216) (x : α) (w : World) :
    (gBuildSlice t 1 #[(0, .agg (Enc.enc x).toArray)]).run P w = .ok (.slice (some ⟨w.heap.size, 0, none⟩) 1 1) (w.alloc (.cells (Enc.enc x).toArray e)) := by
  obtain ⟨i, hi, hx⟩ := Option.map_eq_some_iff.1 E.ex
  simp only [Prod.mk.injEq, Option.map_eq_some_iff] at hx
  obtain ⟨h1, h2, z, h3, h4⟩ := hx
  have hp : 0 < Enc.n α := Enc.pos
  have hf := fill_one z.cells (Enc.enc x).toArray h4 (by simp [Enc.len]) hp
  have hne : ¬ (1 * Enc.n α = 0) := by omega
  have hle : ¬ (1 * Enc.n α > 2 ^ 24) := by simp; omega
  unfold gBuildSlice
  simp only [Instr.buildSlice, Sem.run_bind, run_underlying E.ht, Result.andThen_ok, sizeOf, typeInfo, hi, run_program, Sem.run_pure, h1, hle, hne, if_false, zeroValue, h3, hf]
  simp [newRow]
end

/-! ### Struct literals -/
theorem set_seg (pre old post vs : List Value) (off : Nat) (hp : pre.length = off) (ho : old.length = vs.length) :
    vs.toArray.zipIdx.foldl (fun (X : Array Value) (p : Value × Nat) => X.setIfInBounds (off + p.2) p.1) (pre ++ (old ++ post)).toArray = (pre ++ (vs ++ post)).toArray := by
  subst hp
  rw [← Array.foldl_toList]
  have hz : vs.toArray.zipIdx.toList = vs.zipIdx := by simp
  rw [hz]
  have key : ∀ (vs old done : List Value), old.length = vs.length → (vs.zipIdx done.length).foldl (fun (X : Array Value) (p : Value × Nat) => X.setIfInBounds (pre.length + p.2) p.1) (pre ++ (done ++ (old ++ post))).toArray = (pre ++ (done ++ (vs ++ post))).toArray := by
    intro vs
    induction vs with
    | nil => intro old done h; have : old = [] := List.eq_nil_of_length_eq_zero h; subst this; simp
    | cons v vs ih =>
      intro old done h
      cases old with
      | nil => simp at h
      | cons u old =>
        simp only [List.zipIdx_cons, List.foldl_cons]
        have e : (pre ++ (done ++ (u :: old ++ post))).toArray.setIfInBounds (pre.length + done.length) v = (pre ++ ((done ++ [v]) ++ (old ++ post))).toArray := by
          apply Array.ext'
          simp only [Array.toList_setIfInBounds]
          rw [List.set_append_right _ _ (by omega), Nat.add_sub_cancel_left, List.set_append_right _ _ (Nat.le_refl _), Nat.sub_self]
          simp
        rw [e]
        have := ih old (done ++ [v]) (by simpa using h)
        rw [List.length_append, List.length_singleton] at this
        rw [this]; simp
  simpa using key vs old [] ho
theorem fill_seg (L : List (Nat × Nat)) (i off sz : Nat) (hi : L[i]? = some (off, sz)) (pre old post vs : List Value) (v : Value) (rest : List (Nat × Value)) (hv : v.cells = vs.toArray) (hp : pre.length = off) (ho : old.length = sz) (hs : vs.length = sz) :
    Instr.fill (fun i => L[i]?) (pre ++ (old ++ post)).toArray ((i, v) :: rest) = Instr.fill (fun i => L[i]?) (pre ++ (vs ++ post)).toArray rest := by
  have h := set_seg pre old post vs off hp (by omega)
  have hle : ¬ (off + sz > (pre ++ (old ++ post)).length) := by simp; omega
  have hsz : vs.toArray.size = sz := by simpa using hs
  simp only [Instr.fill, hi, hv, hsz, ne_eq, not_true_eq_false, decide_false, Bool.false_or, List.size_toArray, hle, h]
  simp
theorem run_gBuild_of {P : Program} {t : TypeId} {z cs : List Value} {L : List (Nat × Nat)} {parts : Array (Nat × Value)} (hu : P.underlying t = some (.struct (P.fieldsOf t))) (hz : zeroT P t = some (.agg z.toArray))
    (hL : ((P.fieldsOf t).toList.mapM fun f => (P.info? f.type).map fun i => (f.offset, i.size)) = some L) (h : Instr.fill (fun i => L[i]?) z.toArray parts.toList = some cs.toArray) (w : World) :
    (gBuild t parts).run P w = .ok (.agg cs.toArray) w := by
  unfold gBuild
  apply run_build
  unfold Program.built
  unfold zeroT at hz
  cases hi : P.info? t with
  | none => simp [hi] at hz
  | some i =>
    rw [hi] at hz
    simp only [Option.bind_some] at hz
    simp only [hu, hz, hL, Value.cells]
    simpa using h
/-! ### Appends, closed to simp -/
@[irreducible] def gAppend (tys : Array TypeId) (ty : TypeId) (vs : Array Value) : Sem Value := Builtin.append_ tys ty vs
@[go_sem ↓ high] theorem ex_append (ρ : Operand → Value) (dst : Option Tmp) (s x : Operand) (t u ty : TypeId) (pos : String) (after : Array Edge) (guard : Option (Nat × Bool)) :
    execOp ρ { dst, op := .call { callee := .builtin .append, args := #[s, x], argTypes := #[t, u] }, type := ty, pos, after, guard } = (do pure (.value (← gAppend #[t, u] ty #[ρ s, ρ x]))) := by
  unfold gAppend execOp
  simp only [resolve, invoke, builtin, List.map_toArray, List.map_cons, List.map_nil]
  rfl
theorem gAppend_S {α : Type} [Enc α] {w : World} {base B : Nat} {e t : TypeId} {v : Value} {xs ys : List α} {P : Program} {by8 : Nat} (E : ElemI P t e α by8) (hown : OwnS w base e v xs) {A : Option Addr} {m c : Nat} (hr : Sl α w B A m ys) (h63 : xs.length + m ≤ maxLen) (hbytes : (xs.length + m) * by8 ≤ 140737488355328) (hbase : base ≤ w.heap.size) (ty : TypeId) :
    ∃ v' w', (gAppend #[t, t] ty #[v, .slice A m c]).run P w = .ok v' w' ∧ OwnS w' base e v' (xs ++ ys) ∧ w.grownBy w' v.ownBlock ∧ (v'.ownBlock = v.ownBlock ∨ v'.ownBlock = some w.heap.size) := by
  unfold gAppend
  exact run_append_S E hown hr h63 hbytes hbase (fun _ => by cases A <;> simp) ty
end Go.Gv
/- A region that leaves its order of evaluation open: operations that only look may come in any order. Conditions: those named in each theorem. -/
namespace Go.Gv
open Go Go.RowKit

/-! ### A region that draws its order: operations that only look come first, in whatever order; the rest comes in one forced order.
What looks must find the same in every world of a class (the worlds 'W z'); the rest must stay in the class. -/
section
variable {P : Program} {ops : Array Oper} {md : Region.Mode} {Q : Exit → Act → World → Prop} {ι : Type} {W : ι → World}

@[go_sem] def lookUpon (P : Program) (w : World) (v : Value) : Result Next → Prop
  | .ok (.value u) w' => w' = w ∧ u = v
  | .ok .skip w' => w' = w ∧ v = undef
  | .ok (.enter f args) w' => w' = w ∧ Calls P f args w (fun e w'' => e = .returned v ∧ ∃ m, w'' = w.drewN m)
  | _ => False
@[go_sem] def _root_.Go.Oper.looks (P : Program) (o : Oper) (a : Act) (W : ι → World) (next : Act → Prop) : Prop := ∃ v, (∀ z, lookUpon P (W z) v ((execOp a.eval o).run P (W z))) ∧ next (a.put o.dst v)

def YieldsL (P : Program) (ops : Array Oper) (W : ι → World) (o : Oper) (v : Value) (a : Act) : Prop :=
  (Region.wanted o (yielded ops a.tmps) = true ∧ ∀ z, lookUpon P (W z) v ((execOp a.eval o).run P (W z))) ∨ (Region.wanted o (yielded ops a.tmps) = false ∧ v = undef)
theorem YieldsL.of_same {o : Oper} {v : Value} {a a' : Act} (hy : YieldsL P ops W o v a) (he : execOp a'.eval o = execOp a.eval o)
    (hw : Region.wanted o (yielded ops a'.tmps) = Region.wanted o (yielded ops a.tmps)) : YieldsL P ops W o v a' := by
  unfold YieldsL at *
  rw [he, hw]
  exact hy
theorem YieldsL.wpOp {i : Nat} {o : Oper} {v : Value} {a : Act} {K : Act → World → Prop} (hi : ops[i]? = some o) (hy : YieldsL P ops W o v a) (z : ι) (h : ∀ m, K (a.put o.dst v) ((W z).drewN m)) : wpOp P ops Q i K a (W z) := by
  have h0 : K (a.put o.dst v) (W z) := h 0
  unfold Go.wpOp
  simp only [hi]
  rcases hy with ⟨hw, hv⟩ | ⟨hw, rfl⟩
  · simp only [hw, if_true]
    refine .inl ?_
    have hz := hv z
    unfold Oper.wp
    generalize (execOp a.eval o).run P (W z) = r at hz
    cases r with
    | ok n w' =>
      cases n <;> simp only [lookUpon] at hz <;> simp only [Oper.upon]
      case value u => obtain ⟨rfl, rfl⟩ := hz; exact h0
      case skip => obtain ⟨rfl, rfl⟩ := hz; exact h0
      case enter f args =>
        obtain ⟨rfl, hc⟩ := hz
        refine hc.mono fun e w'' ⟨he, m, hm⟩ => ?_
        subst he; subst hm; exact h m
    | halt x w' => simp only [lookUpon] at hz
  · simp only [hw, Bool.false_eq_true, if_false]; exact h0

theorem wpOp_putL {j : Nat} {oi oj : Oper} {v : Value} {w : World} (hj : ops[j]? = some oj) (hap : oi.apart ops oj = true)
    (hsi : ∀ cs b, oi.op ≠ .select cs b) (hsj : ∀ cs b, oj.op ≠ .select cs b)
    (hQ : ∀ c a w, Q (.panic c) (a.put oi.dst v) w → Q (.panic c) a w) {K : Act → World → Prop} {a : Act}
    (hy : YieldsL P ops W oi v a) (h : wpOp P ops Q j K (a.put oi.dst v) w) :
    wpOp P ops Q j (fun a' w' => YieldsL P ops W oi v a' ∧ K (a'.put oi.dst v) w') a w := by
  obtain ⟨h1, h2, h3⟩ := Oper.apart_spec hap
  have keep : ∀ (a : Act), YieldsL P ops W oi v a → ∀ u, YieldsL P ops W oi v (a.put oj.dst u) := fun a hy u =>
    hy.of_same (execOp_put oi hsi a oj.dst u h3) (wanted_put oi a oj.dst u h3)
  have keepD : ∀ d, YieldsL P ops W oi v { a with defers := d :: a.defers } := fun d => hy.of_same rfl rfl
  unfold Go.wpOp at *
  simp only [hj] at *
  rw [wanted_put oj a oi.dst v h1] at h
  split
  · rename_i hw
    simp only [hw, if_true] at h
    rcases h with h | ⟨hasks, hlets⟩
    case inr => exact .inr ⟨by unfold Oper.asks at *; rw [execOp_put oj hsj a oi.dst v h1] at hasks; exact hasks, hlets⟩
    refine .inl ?_
    unfold Oper.wp at *
    rw [execOp_put oj hsj a oi.dst v h1] at h
    generalize (execOp a.eval oj).run P w = r at *
    cases r with
    | ok n w' =>
      cases n <;> simp only [Oper.upon] at h ⊢
      case value u => exact ⟨keep a hy u, by rw [← Act.put_comm a v u h2]; exact h⟩
      case skip => exact ⟨keep a hy _, by rw [← Act.put_comm a v undef h2]; exact h⟩
      case defer d =>
        refine ⟨keep _ (keepD d) _, ?_⟩
        rw [← Act.put_comm _ v undef h2, ← Act.put_defers]
        exact h
      case enter f args =>
        refine Calls.mono h fun e w'' he => ?_
        cases e with
        | returned u => exact ⟨keep a hy u, by rw [← Act.put_comm a v u h2]; exact he⟩
        | panicked c => exact hQ _ _ _ he
        | outgrown => exact he
      case row row args => exact Rows.mono h fun u w'' he => ⟨keep a hy u, by rw [← Act.put_comm a v u h2]; exact he⟩
    | halt x w' =>
      cases x <;> simp only [Oper.upon] at h ⊢
      case panic u => exact hQ _ _ _ h
  · rename_i hw
    simp only [hw] at h
    exact ⟨keep a hy _, by rw [← Act.put_comm a v undef h2]; exact h⟩

/-- Whatever order is picked from here on, after whatever further draws; every world on the way is of the class. -/
def wpE (P : Program) (md : Region.Mode) (ops : Array Oper) (Q : Exit → Act → World → Prop) (W : ι → World) : Nat → Array Bool → Act → World → Prop
  | 0, listed, a, w => Region.ready md ops listed = [] ∧ ∀ n, Q .normal a (w.drewN n)
  | fuel + 1, listed, a, w =>
    (Region.ready md ops listed = [] → ∀ n, Q .normal a (w.drewN n)) ∧
    ∀ i ∈ Region.ready md ops listed, ∀ n, wpOp P ops Q i (fun a' w' => (∃ z, w' = W z) ∧ wpE P md ops Q W fuel (listed.setIfInBounds i true) a' w') a (w.drewN n)
theorem wpE_drew {fuel : Nat} {listed : Array Bool} {a : Act} {w : World} (h : wpE P md ops Q W fuel listed a w) (m : Nat) : wpE P md ops Q W fuel listed a (w.drewN m) := by
  cases fuel with
  | zero => exact ⟨h.1, fun n => by rw [World.drewN_drewN]; exact h.2 _⟩
  | succ f => exact ⟨fun h0 n => by rw [World.drewN_drewN]; exact h.1 h0 _, fun i hi n => by rw [World.drewN_drewN]; exact h.2 i hi _⟩
theorem wpAny_of_E : ∀ (fuel : Nat) (listed : Array Bool) (a : Act) (w : World), wpE P md ops Q W fuel listed a w → wpAny P md ops Q fuel listed a w
  | 0, _, _, _, h => ⟨h.1, h.2 0⟩
  | fuel + 1, _, _, _, h => ⟨fun h0 => h.1 h0 0, fun i hi => wpOp_mono (fun a' w' h' => wpAny_of_E fuel _ a' w' h'.2) (h.2 i hi 0)⟩

theorem wpE_first {i : Nat} {oi : Oper} {v : Value} (hcl : ∀ z n, ∃ z', (W z).drewN n = W z') (hi : ops[i]? = some oi) (hsel : ∀ (j : Nat) (o : Oper) cs b, ops[j]? = some o → o.op ≠ .select cs b)
    (hQ : ∀ c (a a' : Act) w, a.defers = a'.defers → Q (.panic c) a w → Q (.panic c) a' w) :
    ∀ (fuel : Nat) (listed : Array Bool) (a : Act) (z : ι),
      (∀ j oj, ops[j]? = some oj → j ≠ i → listed.getD j true = false → (∀ e ∈ oj.after, Region.binds md e = true → e.on ≠ i) → oi.apart ops oj = true) →
      i ∈ Region.ready md ops listed → YieldsL P ops W oi v a →
      wpE P md ops Q W fuel (listed.setIfInBounds i true) (a.put oi.dst v) (W z) → wpE P md ops Q W (fuel + 1) listed a (W z) := by
  intro fuel
  induction fuel with
  | zero =>
    intro listed a z _ hr hy H
    refine ⟨fun h => (by rw [h] at hr; cases hr), fun j hj n => ?_⟩
    by_cases hji : j = i
    · subst hji
      obtain ⟨z1, hz1⟩ := hcl z n
      rw [hz1]
      refine hy.wpOp hi z1 fun m => ⟨hcl z1 m, ?_⟩
      rw [← hz1]; exact wpE_drew (wpE_drew H n) m
    · have := ready_mono hj hji
      rw [H.1] at this
      cases this
  | succ fuel ih =>
    intro listed a z hfree hr hy H
    refine ⟨fun h => (by rw [h] at hr; cases hr), fun j hj n => ?_⟩
    by_cases hji : j = i
    · subst hji
      obtain ⟨z1, hz1⟩ := hcl z n
      rw [hz1]
      refine hy.wpOp hi z1 fun m => ⟨hcl z1 m, ?_⟩
      rw [← hz1]; exact wpE_drew (wpE_drew H n) m
    · have h1 := H.2 j (ready_mono hj hji) n
      obtain ⟨hjun, oj, hoj, hall⟩ := mem_ready.1 hj
      have hnot : ∀ e ∈ oj.after, Region.binds md e = true → e.on ≠ i := fun e he hb heq => by
        have h1 := hall e he hb
        have h0 := (mem_ready.1 hr).1
        rw [heq] at h1
        rcases Nat.lt_or_ge i listed.size with h' | h'
        · simp [h'] at h0 h1; rw [h0] at h1; cases h1
        · simp [Array.getElem?_eq_none h'] at h1
      have h2 := wpOp_putL hoj (hfree j oj hoj hji hjun hnot) (fun cs b => hsel i oi cs b hi) (fun cs b => hsel j oj cs b hoj) (fun c a w h => hQ c _ _ w (by cases oi.dst <;> rfl) h) hy h1
      have hfree' : ∀ k ok, ops[k]? = some ok → k ≠ i → (listed.setIfInBounds j true).getD k true = false →
          (∀ e ∈ ok.after, Region.binds md e = true → e.on ≠ i) → oi.apart ops ok = true := fun k ok hk hki hun hno => by
        refine hfree k ok hk hki ?_ hno
        by_cases hjk : j = k
        · subst hjk; exact hjun
        · rw [getD_set_ne true hjk] at hun; exact hun
      refine wpOp_mono (fun a' w' h3 => ⟨h3.2.1, ?_⟩) h2
      obtain ⟨hy', ⟨z2, hz2⟩, h4⟩ := h3
      rw [hz2] at h4 ⊢
      refine ih (listed.setIfInBounds j true) a' z2 hfree' (ready_mono hr (Ne.symm hji)) hy' ?_
      rw [Array.setIfInBounds_comm _ _ hji]
      exact h4

/-- The first part, as it is walked. -/
def wpLooks (P : Program) (ops : Array Oper) (W : ι → World) (K : Act → Prop) : List Oper → Act → Prop
  | [], a => K a
  | o :: rest, a => if Region.wanted o (yielded ops a.tmps) then o.looks P a W (wpLooks P ops W K rest) else wpLooks P ops W K rest (a.put o.dst undef)
/-- The second part, as it is walked. -/
def wpRest (P : Program) (ops : Array Oper) (Q : Exit → Act → World → Prop) (W : ι → World) : List Oper → Act → World → Prop
  | [], a, w => ∀ n, Q .normal a (w.drewN n)
  | o :: rest, a, w => ∀ n, if Region.wanted o (yielded ops a.tmps) then o.wp P a (w.drewN n) (fun a' w' => (∃ z, w' = W z) ∧ wpRest P ops Q W rest a' w') Q else (∃ z, w.drewN n = W z) ∧ wpRest P ops Q W rest (a.put o.dst undef) (w.drewN n)

def seqL (md : Region.Mode) (ops : Array Oper) : List Nat → Array Bool → Bool
  | [], listed => (Region.ready md ops listed).isEmpty
  | t :: tl, listed => decide (Region.ready md ops listed = [t]) && seqL md ops tl (listed.setIfInBounds t true)
def permB (md : Region.Mode) (ops : Array Oper) (tl : List Nat) : List Nat → Array Bool → Bool
  | [], listed => seqL md ops tl listed
  | i :: hd, listed => (Region.ready md ops listed).contains i && Region.free md ops listed i && permB md ops tl hd (listed.setIfInBounds i true)

theorem wpE_of_rest : ∀ (tl : List Nat) (l : List Oper) (listed : Array Bool) (a : Act) (w : World), tl.mapM (fun i => ops[i]?) = some l → seqL md ops tl listed = true → wpRest P ops Q W l a w → wpE P md ops Q W tl.length listed a w
  | [], l, listed, a, w, hl, hB, h => by
    simp at hl; subst hl
    exact ⟨by simpa [seqL] using hB, h⟩
  | t :: tl, l, listed, a, w, hl, hB, h => by
    simp only [List.mapM_cons, Option.bind_eq_bind, Option.pure_def] at hl
    cases ht : ops[t]? with
    | none => simp [ht] at hl
    | some o =>
      cases hr : tl.mapM (fun i => ops[i]?) with
      | none => simp [ht, hr] at hl
      | some l' =>
        simp [ht, hr] at hl
        subst hl
        simp only [seqL, Bool.and_eq_true, decide_eq_true_eq] at hB
        refine ⟨fun h1 => (by rw [hB.1] at h1; cases h1), fun i hi n => ?_⟩
        rw [hB.1] at hi
        obtain rfl : i = t := by simpa using hi
        have hn := h n
        unfold Go.wpOp
        simp only [ht]
        split
        · rename_i hw
          rw [if_pos hw] at hn
          exact .inl (Oper.wp_mono (fun a' w' h' => ⟨h'.1, wpE_of_rest tl l' _ a' w' hr hB.2 h'.2⟩) hn)
        · rename_i hw
          rw [if_neg hw] at hn
          exact ⟨hn.1, wpE_of_rest tl l' _ _ _ hr hB.2 hn.2⟩
theorem wpE_of_looks (hcl : ∀ z n, ∃ z', (W z).drewN n = W z') (hs : Region.noSelect ops = true) (hQ : ∀ c (a a' : Act) w, a.defers = a'.defers → Q (.panic c) a w → Q (.panic c) a' w) (tl : List Nat) (lt : List Oper) (ht : tl.mapM (fun i => ops[i]?) = some lt) (z : ι) :
    ∀ (hd : List Nat) (lh : List Oper) (listed : Array Bool) (a : Act), hd.mapM (fun i => ops[i]?) = some lh → permB md ops tl hd listed = true →
    wpLooks P ops W (fun a' => wpRest P ops Q W lt a' (W z)) lh a → wpE P md ops Q W (hd.length + tl.length) listed a (W z)
  | [], lh, listed, a, hl, hB, h => by
    simp at hl; subst hl
    simpa using wpE_of_rest tl lt listed a _ ht hB h
  | i :: hd, lh, listed, a, hl, hB, h => by
    simp only [List.mapM_cons, Option.bind_eq_bind, Option.pure_def] at hl
    cases hi : ops[i]? with
    | none => simp [hi] at hl
    | some o =>
      cases hr : hd.mapM (fun i => ops[i]?) with
      | none => simp [hi, hr] at hl
      | some l' =>
        simp [hi, hr] at hl
        subst hl
        simp only [permB, Bool.and_eq_true] at hB
        have hrd : i ∈ Region.ready md ops listed := by simpa using hB.1.1
        rw [show (i :: hd).length + tl.length = (hd.length + tl.length) + 1 by simp; omega]
        unfold wpLooks at h
        split at h
        · rename_i hw
          obtain ⟨v, hv, hk⟩ := h
          exact wpE_first hcl hi (Region.noSelect_spec hs) hQ _ listed a z (Region.free_spec hi hB.1.2) hrd (.inl ⟨hw, hv⟩) (wpE_of_looks hcl hs hQ tl lt ht z hd l' _ _ hr hB.2 hk)
        · rename_i hw
          exact wpE_first hcl hi (Region.noSelect_spec hs) hQ _ listed a z (Region.free_spec hi hB.1.2) hrd (.inr ⟨by simpa using hw, rfl⟩) (wpE_of_looks hcl hs hQ tl lt ht z hd l' _ _ hr hB.2 h)

/-- The whole: hd, tl: the operations' numbers. -/
theorem wp_region_looks {id : Nat} {a : Act} {w : World} {l lh lt : List Oper} (hd tl : List Nat) (W : ι → World) (hcl : ∀ z n, ∃ z', (W z).drewN n = W z') (z : ι) (hz : w.drew = W z)
    (hm : P.follows .mixedOrders = true) (hh : hd.mapM (fun i => l.toArray[i]?) = some lh) (ht : tl.mapM (fun i => l.toArray[i]?) = some lt)
    (hB : (Region.noSelect l.toArray && permB .any l.toArray tl hd (Array.replicate l.toArray.size false) && (hd.length + tl.length == l.toArray.size)) = true)
    (hQ : ∀ c (a a' : Act) w, a.defers = a'.defers → Q (.panic c) a w → Q (.panic c) a' w)
    (h : wpLooks P l.toArray W (fun a' => wpRest P l.toArray Q W lt a' w.drew) lh a) : (Code.region id l.toArray true).wp P Q a w := by
  simp only [Bool.and_eq_true, beq_iff_eq] at hB
  refine wp_region_any hm ?_
  rw [hz] at h
  have H := wpE_of_looks hcl hB.1.1 hQ tl lt ht z hd lh _ a hh hB.1.2 h
  rw [hB.2, ← hz] at H
  exact wpAny_of_E _ _ _ _ H

/-- A class of worlds as a family, with its shape hidden. -/
theorem classFam (C : World → Prop) {w : World} (h : C w) : ∃ (ι : Type) (W : ι → World), Nonempty ι ∧ (∀ z, C (W z)) ∧ ∀ w', C w' → ∃ z, w' = W z :=
  ⟨{w' // C w'}, Subtype.val, ⟨⟨w, h⟩⟩, fun z => z.2, fun w' h => ⟨⟨w', h⟩, rfl⟩⟩
theorem wpLooks_nil {K : Act → Prop} {a : Act} (h : K a) : wpLooks P ops W K [] a := h
theorem wpLooks_step {K0 : Act → Prop} {a : Act} {o : Oper} {rest : List Oper}
    (h : ∀ K : Act → Prop, (∀ a, wpLooks P ops W K0 rest a → K a) → if Region.wanted o (yielded ops a.tmps) then o.looks P a W K else K (a.put o.dst undef)) : wpLooks P ops W K0 (o :: rest) a :=
  h _ (fun _ h => h)
theorem wpRest_nil {a : Act} {w : World} (h : ∀ n, Q .normal a (w.drewN n)) : wpRest P ops Q W [] a w := h
theorem wpRest_step {a : Act} {w : World} {o : Oper} {rest : List Oper} (hg : o.guard = none)
    (h : ∀ n, ∀ K : Act → World → Prop, (∀ a w, (∃ z, w = W z) → wpRest P ops Q W rest a w → K a w) → o.wp P a (w.drewN n) K Q) : wpRest P ops Q W (o :: rest) a w := fun n => by
  rw [if_pos (by simp [Region.wanted, hg])]
  exact h n _ (fun _ _ h1 h2 => ⟨h1, h2⟩)
theorem eval_drewN (w : World) (n : Nat) : (w.drewN n).heap = w.heap := rfl
theorem rest_build1 {α : Type} [Enc α] {t e : TypeId} {by8 : Nat} {a : Act} {w : World} {o : Oper} {rest : List Oper} (hg : o.guard = none) (y : Operand) (ho : o.op = .buildSlice t 1 #[(0, y)]) (E : ElemI P t e α by8) (hsmall : Enc.n α ≤ 16777216) (x : α)
    (hy : a.eval y = .agg (Enc.enc x).toArray) (hcls : ∀ n, ∃ z, (w.drewN n).alloc (.cells (Enc.enc x).toArray e) = W z)
    (h : ∀ n, wpRest P ops Q W rest (a.put o.dst (.slice (some ⟨w.heap.size, 0, none⟩) 1 1)) ((w.drewN n).alloc (.cells (Enc.enc x).toArray e))) : wpRest P ops Q W (o :: rest) a w :=
  wpRest_step hg fun n K hK => by
    have := run_buildSlice_one E hsmall x (w.drewN n)
    unfold gBuildSlice at this
    unfold Oper.wp execOp
    simp only [ho, Sem.run_bind, List.map_toArray, List.map_cons, List.map_nil, hy]
    rw [this]
    exact hK _ _ (hcls n) (h n)
theorem rest_append_S {α : Type} [Enc α] {t e : TypeId} {by8 base B : Nat} {xs ys : List α} {v : Value} {a : Act} {w : World} {o : Oper} {rest : List Oper} (hg : o.guard = none) (s x : Operand)
    (ho : o.op = .call { callee := .builtin .append, args := #[s, x], argTypes := #[t, t] }) (E : ElemI P t e α by8)
    (hs : a.eval s = v) (hown : OwnS w base e v xs) {A : Option Addr} {m c : Nat} (hx : a.eval x = .slice A m c) (hr : Sl α w B A m ys) (h63 : xs.length + m ≤ maxLen) (hbytes : (xs.length + m) * by8 ≤ 140737488355328) (hbase : base ≤ w.heap.size)
    (hcls : ∀ n w', (w.drewN n).grownBy w' v.ownBlock → ∃ z, w' = W z)
    (h : ∀ n v' w', OwnS w' base e v' (xs ++ ys) → (w.drewN n).grownBy w' v.ownBlock → (v'.ownBlock = v.ownBlock ∨ v'.ownBlock = some w.heap.size) → wpRest P ops Q W rest (a.put o.dst v') w') : wpRest P ops Q W (o :: rest) a w :=
  wpRest_step hg fun n _K hK => wp_append_S s x t ho E hs (hown.drewN n) hx (hr.drewN_ n) h63 hbytes hbase fun v' w' h2 h3 h4 => hK _ _ (hcls n w' h3) (h n v' w' h2 h3 h4)
theorem rest_assign {a : Act} {w : World} {o : Oper} {rest : List Oper} (hg : o.guard = none) (x : Operand) (ho : o.op = .assign x) (hcls : ∀ n, ∃ z, w.drewN n = W z)
    (h : ∀ n, wpRest P ops Q W rest (a.put o.dst (a.eval x)) (w.drewN n)) : wpRest P ops Q W (o :: rest) a w :=
  wpRest_step hg fun n K hK => by
    unfold Oper.wp execOp
    simp only [ho, Sem.run_pure]
    exact hK _ _ (hcls n) (h n)
theorem rest_value {a : Act} {w : World} {o : Oper} {rest : List Oper} (hg : o.guard = none) (v : Value) (w1 : Nat → World) (hr : ∀ n, (execOp a.eval o).run P (w.drewN n) = .ok (.value v) (w1 n)) (hcls : ∀ n, ∃ z, w1 n = W z)
    (h : ∀ n, wpRest P ops Q W rest (a.put o.dst v) (w1 n)) : wpRest P ops Q W (o :: rest) a w :=
  wpRest_step hg fun n K hK => by
    unfold Oper.wp
    rw [hr n]
    exact hK _ _ (hcls n) (h n)
theorem rest_skip {a : Act} {w : World} {o : Oper} {rest : List Oper} (hg : o.guard = none) (w1 : Nat → World) (hr : ∀ n, (execOp a.eval o).run P (w.drewN n) = .ok .skip (w1 n)) (hcls : ∀ n, ∃ z, w1 n = W z)
    (h : ∀ n, wpRest P ops Q W rest (a.put o.dst undef) (w1 n)) : wpRest P ops Q W (o :: rest) a w :=
  wpRest_step hg fun n K hK => by
    unfold Oper.wp
    rw [hr n]
    exact hK _ _ (hcls n) (h n)
theorem rest_call {a : Act} {w : World} {o : Oper} {rest : List Oper} (hg : o.guard = none) (f : FuncId) (args : Array Value) (R : Value → World → Prop) (hr : ∀ n, (execOp a.eval o).run P (w.drewN n) = .ok (.enter f args) (w.drewN n)) (hc : ∀ n, Calls P f args (w.drewN n) fun e w' => ∃ v, e = .returned v ∧ R v w') (hcls : ∀ v w', R v w' → ∃ z, w' = W z)
    (h : ∀ v w', R v w' → wpRest P ops Q W rest (a.put o.dst v) w') : wpRest P ops Q W (o :: rest) a w :=
  wpRest_step hg fun n K hK => by
    unfold Oper.wp
    rw [hr n]
    refine (hc n).mono fun e w' ⟨v, he, hR⟩ => ?_
    subst he
    exact hK _ _ (hcls v w' hR) (h v w' hR)
theorem putCells_drewN (w : World) (a : Addr) (cs : List Value) (n : Nat) : World.putCells (w.drewN n) a cs = (World.putCells w a cs).drewN n := by
  unfold World.putCells
  have : ∀ (cs : List Value) (i : Nat) (w : World), World.putFrom (w.drewN n) a i cs = (World.putFrom w a i cs).drewN n := by
    intro cs
    induction cs with
    | nil => intro i w; rfl
    | cons v vs ih => intro i w; exact ih _ (w.setCell (a.add i) v)
  exact this cs 0 w
/-- A new variable of a struct's type, and the value stored into it. -/
theorem rest_new {α : Type} [Enc α] {t : TypeId} {a : Act} {w : World} {o1 o2 : Oper} {rest : List Oper} (hg1 : o1.guard = none) (hg2 : o2.guard = none) (x y : Operand) (ho1 : o1.op = .alloc t) (ho2 : o2.op = .store t x y) (z u : α)
    (hal : ∀ w, (gAlloc t).run P w = .ok (.pointer (some ⟨w.heap.size, 0, none⟩)) (w.alloc (.cells (Enc.enc z).toArray t))) (ha : sizeT P t = Enc.n α)
    (hx : (a.put o1.dst (.pointer (some ⟨w.heap.size, 0, none⟩))).eval x = .pointer (some ⟨w.heap.size, 0, none⟩)) (hy : (a.put o1.dst (.pointer (some ⟨w.heap.size, 0, none⟩))).eval y = .agg (Enc.enc u).toArray)
    (hcls : ∀ n m (v : α), ∃ zz, ((w.drewN n).alloc (.cells (Enc.enc v).toArray t)).drewN m = W zz)
    (h : ∀ n m, wpRest P ops Q W rest ((a.put o1.dst (.pointer (some ⟨w.heap.size, 0, none⟩))).put o2.dst undef) (((w.drewN n).alloc (.cells (Enc.enc u).toArray t)).drewN m)) : wpRest P ops Q W (o1 :: o2 :: rest) a w := by
  refine rest_value hg1 (.pointer (some ⟨w.heap.size, 0, none⟩)) (fun n => (w.drewN n).alloc (.cells (Enc.enc z).toArray t)) (fun n => ?_) (fun n => hcls n 0 z) fun n => ?_
  · have := hal (w.drewN n)
    unfold gAlloc at this
    unfold execOp
    simp only [ho1, Sem.run_bind]
    rw [this]; rfl
  · refine rest_skip hg2 (fun m => ((w.drewN n).alloc (.cells (Enc.enc u).toArray t)).drewN m) (fun m => ?_) (fun m => hcls n m u) fun m => h n m
    have hst := run_gStore (P := P) (t := t) (w := ((w.drewN n).alloc (.cells (Enc.enc z).toArray t)).drewN m) (a := ⟨w.heap.size, 0, none⟩) ha u (by
      rw [get?_drewN]
      have := get?_new (w := w.drewN n) t z
      exact Option.isSome_iff_exists.2 ⟨z, this⟩) (by rw [blkFree_drewN]; exact blkFree_new _ _ rfl)
    rw [putCells_drewN, show World.putCells ((w.drewN n).alloc (.cells (Enc.enc z).toArray t)) ⟨w.heap.size, 0, none⟩ (Enc.enc u) = (w.drewN n).alloc (.cells (Enc.enc u).toArray t) from putCells_top (w := w.drewN n) u z rfl] at hst
    unfold gStore at hst
    unfold execOp
    simp only [ho2, Sem.run_bind, hx, hy]
    rw [hst]; rfl
end
end Go.Gv
/- Regions that leave their order open, phase by phase; facts carried from world to world. Conditions: those named in each theorem. -/
namespace Go.Gv
open Go Go.RowKit

section
variable {P : Program} {ops : Array Oper} {md : Region.Mode} {Q : Exit → Act → World → Prop} {ι ι' : Type} {W : ι → World} {W' : ι' → World}

/-- A narrower class of worlds serves too. -/
theorem wpE_sub (hs : ∀ z', ∃ z, W' z' = W z) : ∀ (fuel : Nat) (listed : Array Bool) (a : Act) (w : World), wpE P md ops Q W' fuel listed a w → wpE P md ops Q W fuel listed a w
  | 0, _, _, _, h => h
  | fuel + 1, _, _, _, h => ⟨h.1, fun i hi n => wpOp_mono (fun a' w' h' => ⟨by
      obtain ⟨⟨z', e⟩, _⟩ := h'
      obtain ⟨z, e'⟩ := hs z'
      exact ⟨z, e.trans e'⟩, wpE_sub hs fuel _ a' w' h'.2⟩) (h.2 i hi n)⟩
def setAll (listed : Array Bool) : List Nat → Array Bool
  | [] => listed
  | i :: hd => setAll (listed.setIfInBounds i true) hd
def permH (md : Region.Mode) (ops : Array Oper) : List Nat → Array Bool → Bool
  | [], _ => true
  | i :: hd, listed => (Region.ready md ops listed).contains i && Region.free md ops listed i && permH md ops hd (listed.setIfInBounds i true)

/-- What looks comes first. -/
theorem wpE_looks (hcl : ∀ z n, ∃ z', (W z).drewN n = W z') (hs : Region.noSelect ops = true) (hQ : ∀ c (a a' : Act) w, a.defers = a'.defers → Q (.panic c) a w → Q (.panic c) a' w) (fuel : Nat) (z : ι) :
    ∀ (hd : List Nat) (lh : List Oper) (listed : Array Bool) (a : Act), hd.mapM (fun i => ops[i]?) = some lh → permH md ops hd listed = true →
    wpLooks P ops W (fun a' => wpE P md ops Q W fuel (setAll listed hd) a' (W z)) lh a → wpE P md ops Q W (hd.length + fuel) listed a (W z)
  | [], lh, listed, a, hl, _, h => by
    simp at hl; subst hl
    have e : ([] : List Nat).length + fuel = fuel := by simp
    rw [e]; exact h
  | i :: hd, lh, listed, a, hl, hB, h => by
    simp only [List.mapM_cons, Option.bind_eq_bind, Option.pure_def] at hl
    cases hi : ops[i]? with
    | none => simp [hi] at hl
    | some o =>
      cases hr : hd.mapM (fun i => ops[i]?) with
      | none => simp [hi, hr] at hl
      | some l' =>
        simp [hi, hr] at hl
        subst hl
        simp only [permH, Bool.and_eq_true] at hB
        have hrd : i ∈ Region.ready md ops listed := by simpa using hB.1.1
        rw [show (i :: hd).length + fuel = (hd.length + fuel) + 1 by simp; omega]
        unfold wpLooks at h
        split at h
        · rename_i hw
          obtain ⟨v, hv, hk⟩ := h
          exact wpE_first hcl hi (Region.noSelect_spec hs) hQ _ listed a z (Region.free_spec hi hB.1.2) hrd (.inl ⟨hw, hv⟩) (wpE_looks hcl hs hQ fuel z hd l' _ _ hr hB.2 hk)
        · rename_i hw
          exact wpE_first hcl hi (Region.noSelect_spec hs) hQ _ listed a z (Region.free_spec hi hB.1.2) hrd (.inr ⟨by simpa using hw, rfl⟩) (wpE_looks hcl hs hQ fuel z hd l' _ _ hr hB.2 h)

theorem wpE_looks' {n : Nat} {lh : List Oper} {listed : Array Bool} {a : Act} (fuel : Nat) (hd : List Nat) (hn : n = hd.length + fuel) (hcl : ∀ z n, ∃ z', (W z).drewN n = W z') (hs : Region.noSelect ops = true) (hQ : ∀ c (a a' : Act) w, a.defers = a'.defers → Q (.panic c) a w → Q (.panic c) a' w) (z : ι)
    (hl : hd.mapM (fun i => ops[i]?) = some lh) (hB : permH md ops hd listed = true) (h : wpLooks P ops W (fun a' => wpE P md ops Q W fuel (setAll listed hd) a' (W z)) lh a) : wpE P md ops Q W n listed a (W z) := by
  subst hn; exact wpE_looks hcl hs hQ fuel z hd lh listed a hl hB h

/-- One operation alone is ready. -/
theorem wpE_force {fuel : Nat} {listed : Array Bool} {a : Act} {w : World} (t : Nat) (o : Oper) (ho : ops[t]? = some o) (hr : (Region.ready md ops listed == [t]) = true) (hg : o.guard = none)
    (h : ∀ n, ∀ K : Act → World → Prop, (∀ a' w', (∃ z, w' = W z) → wpE P md ops Q W fuel (listed.setIfInBounds t true) a' w' → K a' w') → o.wp P a (w.drewN n) K Q) : wpE P md ops Q W (fuel + 1) listed a w := by
  have hr' : Region.ready md ops listed = [t] := by simpa using hr
  refine ⟨fun h0 => (by rw [hr'] at h0; cases h0), fun i hi n => ?_⟩
  rw [hr'] at hi
  obtain rfl : i = t := by simpa using hi
  unfold Go.wpOp
  simp only [ho]
  rw [if_pos (by simp [Region.wanted, hg])]
  exact .inl (h n _ fun a' w' h1 h2 => ⟨h1, h2⟩)
theorem wpE_end {listed : Array Bool} {a : Act} {w : World} (hr : (Region.ready md ops listed).isEmpty = true) (h : ∀ n, Q .normal a (w.drewN n)) : ∀ fuel, wpE P md ops Q W fuel listed a w
  | 0 => ⟨by simpa using hr, h⟩
  | _ + 1 => ⟨fun _ => h, fun i hi => by
      have : Region.ready md ops listed = [] := by simpa using hr
      rw [this] at hi; cases hi⟩

/-- A region's start: the class is all worlds above block B as they are in w0. -/
theorem wp_region_E {id : Nat} {a : Act} {w : World} {l : List Oper} (C : World → Prop) (hC : C w.drew) (hm : P.follows .mixedOrders = true)
    (h : ∀ (ι : Type) (W : ι → World) (z0 : ι), w.drew = W z0 → Hid (∀ z, C (W z)) → Hid (∀ w', C w' → ∃ z, w' = W z) → wpE P .any l.toArray Q W l.toArray.size (Array.replicate l.toArray.size false) a (W z0)) : (Code.region id l.toArray true).wp P Q a w := by
  obtain ⟨ι, W, _, hW, hWs⟩ := classFam C hC
  obtain ⟨z0, hz⟩ := hWs _ hC
  have := h ι W z0 hz (Lib.hid hW) (Lib.hid hWs)
  rw [← hz] at this
  exact wp_region_any hm (wpAny_of_E _ _ _ _ this)
/-- The class narrowed in the midst of a region. -/
theorem wpE_class {fuel : Nat} {listed : Array Bool} {a : Act} {w : World} (C : World → Prop) (hC : C w) (hs : ∀ w', C w' → ∃ z, w' = W z)
    (h : ∀ (ι : Type) (W' : ι → World) (z0 : ι), w = W' z0 → Hid (∀ z, C (W' z)) → Hid (∀ w', C w' → ∃ z, w' = W' z) → wpE P md ops Q W' fuel listed a (W' z0)) : wpE P md ops Q W fuel listed a w := by
  obtain ⟨ι, W', _, hW, hWs⟩ := classFam C hC
  obtain ⟨z0, hz⟩ := hWs _ hC
  have := h ι W' z0 hz (Lib.hid hW) (Lib.hid hWs)
  rw [← hz] at this
  refine wpE_sub (fun z' => ?_) _ _ _ _ this
  obtain ⟨z, e⟩ := hs _ (hW z')
  exact ⟨z, e⟩

/-! Forced operations of the common kinds. -/
section
variable {fuel : Nat} {listed : Array Bool} {a : Act} {w : World} (t : Nat) (o : Oper) (ho : ops[t]? = some o) (hr : (Region.ready md ops listed == [t]) = true) (hg : o.guard = none)
include ho hr hg
theorem wpE_value (v : Value) (w1 : Nat → World) (hx : ∀ n, (execOp a.eval o).run P (w.drewN n) = .ok (.value v) (w1 n)) (hcls : ∀ n, ∃ z, w1 n = W z)
    (h : ∀ n, wpE P md ops Q W fuel (listed.setIfInBounds t true) (a.put o.dst v) (w1 n)) : wpE P md ops Q W (fuel + 1) listed a w :=
  wpE_force t o ho hr hg fun n K hK => by
    unfold Oper.wp
    rw [hx n]
    exact hK _ _ (hcls n) (h n)
theorem wpE_skip (w1 : Nat → World) (hx : ∀ n, (execOp a.eval o).run P (w.drewN n) = .ok .skip (w1 n)) (hcls : ∀ n, ∃ z, w1 n = W z)
    (h : ∀ n, wpE P md ops Q W fuel (listed.setIfInBounds t true) (a.put o.dst undef) (w1 n)) : wpE P md ops Q W (fuel + 1) listed a w :=
  wpE_force t o ho hr hg fun n K hK => by
    unfold Oper.wp
    rw [hx n]
    exact hK _ _ (hcls n) (h n)
theorem wpE_call (f : FuncId) (args : Array Value) (R : Value → World → Prop) (hx : ∀ n, (execOp a.eval o).run P (w.drewN n) = .ok (.enter f args) (w.drewN n)) (hc : ∀ n, Calls P f args (w.drewN n) fun e w' => ∃ v, e = .returned v ∧ R v w') (hcls : ∀ v w', R v w' → ∃ z, w' = W z)
    (h : ∀ v w', R v w' → wpE P md ops Q W fuel (listed.setIfInBounds t true) (a.put o.dst v) w') : wpE P md ops Q W (fuel + 1) listed a w :=
  wpE_force t o ho hr hg fun n K hK => by
    unfold Oper.wp
    rw [hx n]
    refine (hc n).mono fun e w' ⟨v, he, hR⟩ => ?_
    subst he
    exact hK _ _ (hcls v w' hR) (h v w' hR)
theorem wpE_assign (x : Operand) (hop : o.op = .assign x) (hcls : ∀ n, ∃ z, w.drewN n = W z)
    (h : ∀ n, wpE P md ops Q W fuel (listed.setIfInBounds t true) (a.put o.dst (a.eval x)) (w.drewN n)) : wpE P md ops Q W (fuel + 1) listed a w :=
  wpE_value t o ho hr hg (a.eval x) (fun n => w.drewN n) (fun n => by unfold execOp; simp only [hop, Sem.run_pure]) hcls h
theorem wpE_build1 {α : Type} [Enc α] {ts e : TypeId} {by8 : Nat} (y : Operand) (hop : o.op = .buildSlice ts 1 #[(0, y)]) (E : ElemI P ts e α by8) (hsmall : Enc.n α ≤ 16777216) (x : α)
    (hy : a.eval y = .agg (Enc.enc x).toArray) (hcls : ∀ n, ∃ z, (w.drewN n).alloc (.cells (Enc.enc x).toArray e) = W z)
    (h : ∀ n, wpE P md ops Q W fuel (listed.setIfInBounds t true) (a.put o.dst (.slice (some ⟨w.heap.size, 0, none⟩) 1 1)) ((w.drewN n).alloc (.cells (Enc.enc x).toArray e))) : wpE P md ops Q W (fuel + 1) listed a w :=
  wpE_value t o ho hr hg _ (fun n => (w.drewN n).alloc (.cells (Enc.enc x).toArray e)) (fun n => by
    have := run_buildSlice_one E hsmall x (w.drewN n)
    unfold gBuildSlice at this
    unfold execOp
    simp only [hop, Sem.run_bind, List.map_toArray, List.map_cons, List.map_nil, hy]
    rw [this]; rfl) hcls h
theorem wpE_append {α : Type} [Enc α] {ts e : TypeId} {by8 base B : Nat} {xs ys : List α} {v : Value} (s x : Operand)
    (hop : o.op = .call { callee := .builtin .append, args := #[s, x], argTypes := #[ts, ts] }) (E : ElemI P ts e α by8)
    (hs : a.eval s = v) (hown : OwnS w base e v xs) {A : Option Addr} {m c : Nat} (hx : a.eval x = .slice A m c) (hsl : Sl α w B A m ys) (h63 : xs.length + m ≤ maxLen) (hbytes : (xs.length + m) * by8 ≤ 140737488355328) (hbase : base ≤ w.heap.size)
    (hcls : ∀ n w', (w.drewN n).grownBy w' v.ownBlock → ∃ z, w' = W z)
    (h : ∀ n v' w', OwnS w' base e v' (xs ++ ys) → (w.drewN n).grownBy w' v.ownBlock → (v'.ownBlock = v.ownBlock ∨ v'.ownBlock = some w.heap.size) → wpE P md ops Q W fuel (listed.setIfInBounds t true) (a.put o.dst v') w') : wpE P md ops Q W (fuel + 1) listed a w :=
  wpE_force t o ho hr hg fun n _K hK => wp_append_S s x ts hop E hs (hown.drewN n) hx (hsl.drewN_ n) h63 hbytes hbase fun v' w' h2 h3 h4 => hK _ _ (hcls n w' h3) (h n v' w' h2 h3 h4)
end
end

/-! ### Facts carried from one world to the next -/
/-- All that there was in w0 is there in w. -/
def Bel (w0 w : World) : Prop := Below w0.heap.size w0 w
theorem Bel.refl (w : World) : Bel w w := Below.refl _ _
theorem Bel.step {w0 w w' : World} (h : Bel w0 w) (hb : Below w.heap.size w w') : Bel w0 w' := Below.trans h (hb.mono h.size)
theorem Bel.trans {w0 w w' : World} (h : Bel w0 w) (hb : Bel w w') : Bel w0 w' := h.step hb
theorem Bel.alloc {w0 w : World} (h : Bel w0 w) (o : Obj) : Bel w0 (w.alloc o) := Below.alloc h h.size o
theorem Bel.drew {w0 w : World} (h : Bel w0 w) : Bel w0 w.drew := Below.drew h
theorem Bel.drewN {w0 w : World} (h : Bel w0 w) (n : Nat) : Bel w0 (w.drewN n) := bdN h n
theorem Bel.size {w0 w : World} (h : Bel w0 w) : w0.heap.size ≤ w.heap.size := Below.size h
theorem Bel.grown {w0 w w' : World} {row : Option Nat} (h : Bel w0 w) (hg : w.grownBy w' row) (hr : ∀ k, row = some k → w0.heap.size ≤ k) : Bel w0 w' := Below.grown h hg h.size hr
theorem Bel.setCell {w0 w : World} (h : Bel w0 w) {p : Addr} (hp : w0.heap.size ≤ p.block) (u : Value) : Bel w0 (w.setCell p u) := Below.setCell h hp u
theorem Bel.appS {α : Type} [Enc α] {w0 w w' : World} {base : Nat} {e : TypeId} {v : Value} {xs : List α} (h : Bel w0 w) (hg : w.grownBy w' v.ownBlock) (hown : OwnS w base e v xs) (hb : w0.heap.size ≤ base) : Bel w0 w' :=
  Gv.Below.appS h hg hown hb h.size
theorem Sl.stepB {α : Type} [Enc α] {w w' : World} {A : Option Addr} {n : Nat} {xs : List α} (h : Sl α w w.heap.size A n xs) (hb : Bel w w') : Sl α w' w'.heap.size A n xs := (h.below hb).more hb.size
theorem OwnS.step {α : Type} [Enc α] {w w' : World} {base : Nat} {e : TypeId} {v : Value} {xs : List α} (h : OwnS w base e v xs) (hb : Below w.heap.size w w') : OwnS w' base e v xs := h.below hb (Nat.le_refl _)
end Go.Gv
/- Regions that leave their order open, phase by phase, beside calls that make memory. Conditions: those named in each theorem. -/
namespace Go.Gv
open Go Go.RowKit

/-! G w w': what may come between two operations of the region (draws, new blocks ..). An operation named in T may do more; it waits for all that looks. -/
section
variable {P : Program} {ops : Array Oper} {md : Region.Mode} {Q : Exit → Act → World → Prop} {G : World → World → Prop} {T : List Nat}

@[go_sem] def lookUponG (P : Program) (G : World → World → Prop) (w : World) (v : Value) : Result Next → Prop
  | .ok (.value u) w' => w' = w ∧ u = v
  | .ok .skip w' => w' = w ∧ v = undef
  | .ok (.enter f args) w' => w' = w ∧ Calls P f args w (fun e w'' => e = .returned v ∧ G w w'')
  | _ => False
@[go_sem] def _root_.Go.Oper.looksG {ι : Type} (P : Program) (G : World → World → Prop) (o : Oper) (a : Act) (W : ι → World) (next : Act → Prop) : Prop := ∃ v, (∀ z, lookUponG P G (W z) v ((execOp a.eval o).run P (W z))) ∧ next (a.put o.dst v)

def YieldsG (P : Program) (ops : Array Oper) (G : World → World → Prop) (w : World) (o : Oper) (v : Value) (a : Act) : Prop :=
  (Region.wanted o (yielded ops a.tmps) = true ∧ ∀ w', G w w' → lookUponG P G w' v ((execOp a.eval o).run P w')) ∨ (Region.wanted o (yielded ops a.tmps) = false ∧ v = undef)
theorem YieldsG.of_same {w : World} {o : Oper} {v : Value} {a a' : Act} (hy : YieldsG P ops G w o v a) (he : execOp a'.eval o = execOp a.eval o)
    (hw : Region.wanted o (yielded ops a'.tmps) = Region.wanted o (yielded ops a.tmps)) : YieldsG P ops G w o v a' := by
  unfold YieldsG at *
  rw [he, hw]
  exact hy
theorem YieldsG.ext (ht : ∀ a b c, G a b → G b c → G a c) {w w1 : World} {o : Oper} {v : Value} {a : Act} (hy : YieldsG P ops G w o v a) (h : G w w1) : YieldsG P ops G w1 o v a := by
  rcases hy with ⟨h1, h2⟩ | h
  · exact .inl ⟨h1, fun w' hw' => h2 w' (ht _ _ _ h hw')⟩
  · exact .inr h
theorem YieldsG.wpOp (hrf : ∀ a, G a a) {i : Nat} {o : Oper} {v : Value} {a : Act} {w w' : World} {K : Act → World → Prop} (hi : ops[i]? = some o) (hy : YieldsG P ops G w o v a) (hw' : G w w') (h : ∀ w'', G w' w'' → K (a.put o.dst v) w'') : wpOp P ops Q i K a w' := by
  unfold Go.wpOp
  simp only [hi]
  rcases hy with ⟨hw, hv⟩ | ⟨hw, rfl⟩
  · simp only [hw, if_true]
    refine .inl ?_
    have hz := hv w' hw'
    unfold Oper.wp
    generalize (execOp a.eval o).run P w' = r at hz
    cases r with
    | ok n w1 =>
      cases n <;> simp only [lookUponG] at hz <;> simp only [Oper.upon]
      case value u => obtain ⟨rfl, rfl⟩ := hz; exact h _ (hrf _)
      case skip => obtain ⟨rfl, rfl⟩ := hz; exact h _ (hrf _)
      case enter f args =>
        obtain ⟨rfl, hc⟩ := hz
        refine hc.mono fun e w'' ⟨he, hm⟩ => ?_
        subst he; exact h _ hm
    | halt x w1 => simp only [lookUponG] at hz
  · simp only [hw, Bool.false_eq_true, if_false]; exact h _ (hrf _)
theorem wpOp_putG {j : Nat} {oi oj : Oper} {v : Value} {w w0 : World} (hj : ops[j]? = some oj) (hap : oi.apart ops oj = true)
    (hsi : ∀ cs b, oi.op ≠ .select cs b) (hsj : ∀ cs b, oj.op ≠ .select cs b)
    (hQ : ∀ c a w, Q (.panic c) (a.put oi.dst v) w → Q (.panic c) a w) {K : Act → World → Prop} {a : Act}
    (hy : YieldsG P ops G w0 oi v a) (h : wpOp P ops Q j K (a.put oi.dst v) w) :
    wpOp P ops Q j (fun a' w' => YieldsG P ops G w0 oi v a' ∧ K (a'.put oi.dst v) w') a w := by
  obtain ⟨h1, h2, h3⟩ := Oper.apart_spec hap
  have keep : ∀ (a : Act), YieldsG P ops G w0 oi v a → ∀ u, YieldsG P ops G w0 oi v (a.put oj.dst u) := fun a hy u =>
    hy.of_same (execOp_put oi hsi a oj.dst u h3) (wanted_put oi a oj.dst u h3)
  have keepD : ∀ d, YieldsG P ops G w0 oi v { a with defers := d :: a.defers } := fun d => hy.of_same rfl rfl
  unfold Go.wpOp at *
  simp only [hj] at *
  rw [wanted_put oj a oi.dst v h1] at h
  split
  · rename_i hw
    simp only [hw, if_true] at h
    rcases h with h | ⟨hasks, hlets⟩
    case inr => exact .inr ⟨by unfold Oper.asks at *; rw [execOp_put oj hsj a oi.dst v h1] at hasks; exact hasks, hlets⟩
    refine .inl ?_
    unfold Oper.wp at *
    rw [execOp_put oj hsj a oi.dst v h1] at h
    generalize (execOp a.eval oj).run P w = r at *
    cases r with
    | ok n w' =>
      cases n <;> simp only [Oper.upon] at h ⊢
      case value u => exact ⟨keep a hy u, by rw [← Act.put_comm a v u h2]; exact h⟩
      case skip => exact ⟨keep a hy _, by rw [← Act.put_comm a v undef h2]; exact h⟩
      case defer d =>
        refine ⟨keep _ (keepD d) _, ?_⟩
        rw [← Act.put_comm _ v undef h2, ← Act.put_defers]
        exact h
      case enter f args =>
        refine Calls.mono h fun e w'' he => ?_
        cases e with
        | returned u => exact ⟨keep a hy u, by rw [← Act.put_comm a v u h2]; exact he⟩
        | panicked c => exact hQ _ _ _ he
        | outgrown => exact he
      case row row args => exact Rows.mono h fun u w'' he => ⟨keep a hy u, by rw [← Act.put_comm a v u h2]; exact he⟩
    | halt x w' =>
      cases x <;> simp only [Oper.upon] at h ⊢
      case panic u => exact hQ _ _ _ h
  · rename_i hw
    simp only [hw] at h
    exact ⟨keep a hy _, by rw [← Act.put_comm a v undef h2]; exact h⟩

/-- Whatever order is picked from here on. -/
def wpG (P : Program) (md : Region.Mode) (ops : Array Oper) (Q : Exit → Act → World → Prop) (G : World → World → Prop) (T : List Nat) : Nat → Array Bool → Act → World → Prop
  | 0, listed, a, w => Region.ready md ops listed = [] ∧ ∀ w', G w w' → Q .normal a w'
  | fuel + 1, listed, a, w =>
    (Region.ready md ops listed = [] → ∀ w', G w w' → Q .normal a w') ∧
    ∀ i ∈ Region.ready md ops listed, ∀ w', G w w' → wpOp P ops Q i (fun a' w'' => (i ∉ T → G w' w'') ∧ wpG P md ops Q G T fuel (listed.setIfInBounds i true) a' w'') a w'
theorem wpG_ext (ht : ∀ a b c, G a b → G b c → G a c) {fuel : Nat} {listed : Array Bool} {a : Act} {w w1 : World} (h : wpG P md ops Q G T fuel listed a w) (h1 : G w w1) : wpG P md ops Q G T fuel listed a w1 := by
  cases fuel with
  | zero => exact ⟨h.1, fun w' hw' => h.2 _ (ht _ _ _ h1 hw')⟩
  | succ f => exact ⟨fun h0 w' hw' => h.1 h0 _ (ht _ _ _ h1 hw'), fun i hi w' hw' => h.2 i hi _ (ht _ _ _ h1 hw')⟩
theorem wpAny_of_G (hrf : ∀ a, G a a) : ∀ (fuel : Nat) (listed : Array Bool) (a : Act) (w : World), wpG P md ops Q G T fuel listed a w → wpAny P md ops Q fuel listed a w
  | 0, _, _, _, h => ⟨h.1, h.2 _ (hrf _)⟩
  | fuel + 1, _, _, _, h => ⟨fun h0 => h.1 h0 _ (hrf _), fun i hi => wpOp_mono (fun a' w' h' => wpAny_of_G hrf fuel _ a' w' h'.2) (h.2 i hi _ (hrf _))⟩

/-- What an operation waits for, through others. -/
def waitsFor (md : Region.Mode) (ops : Array Oper) : Nat → Nat → List Nat
  | 0, _ => []
  | n + 1, t => match ops[t]? with
    | none => []
    | some o => (o.after.toList.filter fun e => Region.binds md e).flatMap fun e => e.on :: waitsFor md ops n e.on
def downC (md : Region.Mode) (ops : Array Oper) (listed : Array Bool) : Prop := ∀ j oj, ops[j]? = some oj → listed.getD j false = true → ∀ e ∈ oj.after, Region.binds md e = true → listed.getD e.on false = true
theorem downC_waits {listed : Array Bool} (hd : downC md ops listed) : ∀ (n t : Nat), listed.getD t false = true → ∀ i ∈ waitsFor md ops n t, listed.getD i false = true
  | 0, _, _, i, hi => by simp [waitsFor] at hi
  | n + 1, t, ht, i, hi => by
    unfold waitsFor at hi
    split at hi
    · simp at hi
    · rename_i o ho
      rw [List.mem_flatMap] at hi
      obtain ⟨e, he, hi⟩ := hi
      rw [List.mem_filter] at he
      have h1 := hd t o ho ht e (by simpa using he.1) he.2
      simp only [List.mem_cons] at hi
      rcases hi with rfl | hi
      · exact h1
      · exact downC_waits hd n e.on h1 i hi
theorem ready_waits {listed : Array Bool} (hd : downC md ops listed) {t n : Nat} (hr : t ∈ Region.ready md ops listed) {i : Nat} (hi : i ∈ waitsFor md ops n t) : listed.getD i false = true := by
  obtain ⟨_, o, ho, hall⟩ := mem_ready.1 hr
  cases n with
  | zero => simp [waitsFor] at hi
  | succ n =>
    unfold waitsFor at hi
    rw [ho] at hi
    simp only at hi
    rw [List.mem_flatMap] at hi
    obtain ⟨e, he, hi⟩ := hi
    rw [List.mem_filter] at he
    have h1 := hall e (by simpa using he.1) he.2
    simp only [List.mem_cons] at hi
    rcases hi with rfl | hi
    · exact h1
    · exact downC_waits hd n e.on h1 i hi
theorem downC_set {listed : Array Bool} (hd : downC md ops listed) {i : Nat} (hr : i ∈ Region.ready md ops listed) : downC md ops (listed.setIfInBounds i true) := by
  intro j oj hj hl e he hb
  obtain ⟨_, o, ho, hall⟩ := mem_ready.1 hr
  by_cases hij : i = j
  · subst hij
    rw [ho] at hj; injection hj with hj; subst hj
    exact getD_set_true (hall e he hb)
  · rw [getD_set_ne false hij] at hl
    exact getD_set_true (hd j oj hj hl e he hb)

theorem wpG_first {i : Nat} {oi : Oper} {v : Value} (hrf : ∀ a, G a a) (ht : ∀ a b c, G a b → G b c → G a c) (hi : ops[i]? = some oi) (hsel : ∀ (j : Nat) (o : Oper) cs b, ops[j]? = some o → o.op ≠ .select cs b)
    (hQ : ∀ c (a a' : Act) w, a.defers = a'.defers → Q (.panic c) a w → Q (.panic c) a' w) (n : Nat) (hT : ∀ t ∈ T, i ∈ waitsFor md ops n t) :
    ∀ (fuel : Nat) (listed : Array Bool) (a : Act) (w : World), downC md ops listed →
      (∀ j oj, ops[j]? = some oj → j ≠ i → listed.getD j true = false → (∀ e ∈ oj.after, Region.binds md e = true → e.on ≠ i) → oi.apart ops oj = true) →
      i ∈ Region.ready md ops listed → YieldsG P ops G w oi v a →
      wpG P md ops Q G T fuel (listed.setIfInBounds i true) (a.put oi.dst v) w → wpG P md ops Q G T (fuel + 1) listed a w := by
  intro fuel
  induction fuel with
  | zero =>
    intro listed a w hdc _ hr hy H
    refine ⟨fun h => (by rw [h] at hr; cases hr), fun j hj w' hw' => ?_⟩
    by_cases hji : j = i
    · subst hji
      exact hy.wpOp hrf hi hw' fun w'' hw'' => ⟨fun _ => hw'', wpG_ext ht H (ht _ _ _ hw' hw'')⟩
    · have := ready_mono hj hji
      rw [H.1] at this
      cases this
  | succ fuel ih =>
    intro listed a w hdc hfree hr hy H
    refine ⟨fun h => (by rw [h] at hr; cases hr), fun j hj w' hw' => ?_⟩
    by_cases hji : j = i
    · subst hji
      exact hy.wpOp hrf hi hw' fun w'' hw'' => ⟨fun _ => hw'', wpG_ext ht H (ht _ _ _ hw' hw'')⟩
    · have h1 := H.2 j (ready_mono hj hji) w' hw'
      obtain ⟨hjun, oj, hoj, hall⟩ := mem_ready.1 hj
      have hun : listed.getD i true = false := (mem_ready.1 hr).1
      have hun2 : listed.getD i false = false := by
        rcases Nat.lt_or_ge i listed.size with h' | h'
        · simpa [h'] using hun
        · simp [Array.getElem?_eq_none h'] at hun
      have hnot : ∀ e ∈ oj.after, Region.binds md e = true → e.on ≠ i := fun e he hb heq => by
        have h1 := hall e he hb
        rw [heq, hun2] at h1; cases h1
      have hjT : j ∉ T := fun hjt => by
        have := ready_waits hdc hj (hT j hjt)
        rw [hun2] at this; cases this
      have h2 := wpOp_putG (G := G) hoj (hfree j oj hoj hji hjun hnot) (fun cs b => hsel i oi cs b hi) (fun cs b => hsel j oj cs b hoj) (fun c a w h => hQ c _ _ w (by cases oi.dst <;> rfl) h) (hy.ext ht hw') h1
      have hfree' : ∀ k ok, ops[k]? = some ok → k ≠ i → (listed.setIfInBounds j true).getD k true = false →
          (∀ e ∈ ok.after, Region.binds md e = true → e.on ≠ i) → oi.apart ops ok = true := fun k ok hk hki hun hno => by
        refine hfree k ok hk hki ?_ hno
        by_cases hjk : j = k
        · subst hjk; exact hjun
        · rw [getD_set_ne true hjk] at hun; exact hun
      refine wpOp_mono (fun a' w'' h3 => ⟨h3.2.1, ?_⟩) h2
      obtain ⟨hy', hG, h4⟩ := h3
      refine ih (listed.setIfInBounds j true) a' w'' (downC_set hdc hj) hfree' (ready_mono hr (Ne.symm hji)) (hy'.ext ht (hG hjT)) ?_
      rw [Array.setIfInBounds_comm _ _ hji]
      exact h4

/-- The looking operations, as they are walked. -/
def wpLooksG {ι : Type} (P : Program) (ops : Array Oper) (G : World → World → Prop) (W : ι → World) (K : Act → Prop) : List Oper → Act → Prop
  | [], a => K a
  | o :: rest, a => if Region.wanted o (yielded ops a.tmps) then o.looksG P G a W (wpLooksG P ops G W K rest) else wpLooksG P ops G W K rest (a.put o.dst undef)
theorem wpLooksG_nil {ι : Type} {W : ι → World} {K : Act → Prop} {a : Act} (h : K a) : wpLooksG P ops G W K [] a := h
theorem wpLooksG_step {ι : Type} {W : ι → World} {K0 : Act → Prop} {a : Act} {o : Oper} {rest : List Oper}
    (h : ∀ K : Act → Prop, (∀ a, wpLooksG P ops G W K0 rest a → K a) → if Region.wanted o (yielded ops a.tmps) then o.looksG P G a W K else K (a.put o.dst undef)) : wpLooksG P ops G W K0 (o :: rest) a :=
  h _ (fun _ h => h)
def permG (md : Region.Mode) (ops : Array Oper) (T : List Nat) (m : Nat) : List Nat → Array Bool → Bool
  | [], _ => true
  | i :: hd, listed => (Region.ready md ops listed).contains i && Region.free md ops listed i && (T.all fun t => (waitsFor md ops m t).contains i) && permG md ops T m hd (listed.setIfInBounds i true)
def downB (md : Region.Mode) (ops : Array Oper) (listed : Array Bool) : Bool := (List.range ops.size).all fun j => !(listed.getD j false) || ((ops[j]?).map fun o => o.after.all fun e => !(Region.binds md e) || listed.getD e.on false).getD true
theorem downB_spec {listed : Array Bool} (h : downB md ops listed = true) : downC md ops listed := by
  intro j oj hj hl e he hb
  unfold downB at h
  rw [List.all_eq_true] at h
  have := h j (List.mem_range.2 (Array.getElem?_eq_some_iff.1 hj).1)
  rw [hl, hj] at this
  simp only [Bool.not_true, Bool.false_or, Option.map_some, Option.getD_some, Array.all_eq_true_iff_forall_mem] at this
  have := this e he
  rw [hb] at this
  simpa using this
theorem wpG_looks_aux {ι : Type} {W : ι → World} (hrf : ∀ a, G a a) (ht : ∀ a b c, G a b → G b c → G a c) (hs : Region.noSelect ops = true) (hQ : ∀ c (a a' : Act) w, a.defers = a'.defers → Q (.panic c) a w → Q (.panic c) a' w) (m fuel : Nat) (w : World) (hW : ∀ w', G w w' → ∃ z, w' = W z) :
    ∀ (hd : List Nat) (lh : List Oper) (listed : Array Bool) (a : Act), hd.mapM (fun i => ops[i]?) = some lh → downC md ops listed → permG md ops T m hd listed = true →
    wpLooksG P ops G W (fun a' => wpG P md ops Q G T fuel (setAll listed hd) a' w) lh a → wpG P md ops Q G T (hd.length + fuel) listed a w
  | [], lh, listed, a, hl, _, _, h => by
    simp at hl; subst hl
    have e : ([] : List Nat).length + fuel = fuel := by simp
    rw [e]; exact h
  | i :: hd, lh, listed, a, hl, hdc, hB, h => by
    simp only [List.mapM_cons, Option.bind_eq_bind, Option.pure_def] at hl
    cases hi : ops[i]? with
    | none => simp [hi] at hl
    | some o =>
      cases hr : hd.mapM (fun i => ops[i]?) with
      | none => simp [hi, hr] at hl
      | some l' =>
        simp [hi, hr] at hl
        subst hl
        simp only [permG, Bool.and_eq_true, List.all_eq_true, List.contains_iff_mem] at hB
        obtain ⟨⟨⟨hB1, hB2⟩, hB3⟩, hB4⟩ := hB
        rw [show (i :: hd).length + fuel = (hd.length + fuel) + 1 by simp; omega]
        unfold wpLooksG at h
        split at h
        · rename_i hw
          obtain ⟨v, hv, hk⟩ := h
          exact wpG_first hrf ht hi (Region.noSelect_spec hs) hQ m hB3 _ listed a w hdc (Region.free_spec hi hB2) hB1 (.inl ⟨hw, fun w' hw' => by
            obtain ⟨z, rfl⟩ := hW w' hw'
            exact hv z⟩) (wpG_looks_aux hrf ht hs hQ m fuel w hW hd l' _ _ hr (downC_set hdc hB1) hB4 hk)
        · rename_i hw
          exact wpG_first hrf ht hi (Region.noSelect_spec hs) hQ m hB3 _ listed a w hdc (Region.free_spec hi hB2) hB1 (.inr ⟨by simpa using hw, rfl⟩) (wpG_looks_aux hrf ht hs hQ m fuel w hW hd l' _ _ hr (downC_set hdc hB1) hB4 h)
/-- The operations, written out. -/
def nthO : List Oper → Nat → Option Oper
  | [], _ => none
  | o :: _, 0 => some o
  | _ :: l, n + 1 => nthO l n
theorem nthO_eq : ∀ (l : List Oper) (n : Nat), nthO l n = l[n]?
  | [], n => by simp [nthO]
  | _ :: _, 0 => rfl
  | _ :: l, n + 1 => by unfold nthO; rw [nthO_eq l n]; rfl
def picks (l : List Oper) : List Nat → Option (List Oper)
  | [] => some []
  | i :: hd => match nthO l i, picks l hd with
    | some o, some r => some (o :: r)
    | _, _ => none
theorem picks_eq (l : List Oper) : ∀ (hd : List Nat) (lh : List Oper), picks l hd = some lh → hd.mapM (fun i => l.toArray[i]?) = some lh
  | [], lh, h => by simp [picks] at h; subst h; rfl
  | i :: hd, lh, h => by
    unfold picks at h
    split at h
    · rename_i o r h1 h2
      injection h with h; subst h
      rw [List.mapM_cons, picks_eq l hd r h2]
      rw [nthO_eq] at h1
      simp [h1]
    · cases h
/-- What looks comes first; W z: the worlds in which it may look. -/
theorem wpG_looks {l : List Oper} {n : Nat} {lh : List Oper} {listed : Array Bool} {a : Act} {w : World} (fuel m : Nat) (hd : List Nat) (hn : n = hd.length + fuel) (hrf : ∀ a, G a a) (ht : ∀ a b c, G a b → G b c → G a c) (hs : Region.noSelect l.toArray = true) (hQ : ∀ c (a a' : Act) w, a.defers = a'.defers → Q (.panic c) a w → Q (.panic c) a' w)
    (hl : picks l hd = some lh) (hB : (downB md l.toArray listed && permG md l.toArray T m hd listed) = true)
    (h : ∀ (ι : Type) (W : ι → World), Nonempty ι → Hid (∀ z, G w (W z)) → wpLooksG P l.toArray G W (fun a' => wpG P md l.toArray Q G T fuel (setAll listed hd) a' w) lh a) : wpG P md l.toArray Q G T n listed a w := by
  subst hn
  rw [Bool.and_eq_true] at hB
  obtain ⟨ι, W, hne, hW, hWs⟩ := classFam (G w) (hrf w)
  exact wpG_looks_aux hrf ht hs hQ m fuel w hWs hd lh listed a (picks_eq l hd lh hl) (downB_spec hB.1) hB.2 (h ι W hne (Lib.hid hW))
/-- One operation alone is ready. -/
theorem wpG_force {l : List Oper} {fuel : Nat} {listed : Array Bool} {a : Act} {w : World} (t : Nat) (o : Oper) (ho : nthO l t = some o) (hr : (Region.ready md l.toArray listed == [t]) = true) (hg : o.guard = none)
    (h : ∀ w', G w w' → ∀ K : Act → World → Prop, (∀ a' w'', (t ∉ T → G w' w'') → wpG P md l.toArray Q G T fuel (listed.setIfInBounds t true) a' w'' → K a' w'') → o.wp P a w' K Q) : wpG P md l.toArray Q G T (fuel + 1) listed a w := by
  have ho : l.toArray[t]? = some o := by rw [← ho, nthO_eq]; simp
  have hr' : Region.ready md l.toArray listed = [t] := by simpa using hr
  refine ⟨fun h0 => (by rw [hr'] at h0; cases h0), fun i hi w' hw' => ?_⟩
  rw [hr'] at hi
  obtain rfl : i = t := by simpa using hi
  unfold Go.wpOp
  simp only [ho]
  rw [if_pos (by simp [Region.wanted, hg])]
  exact .inl (h w' hw' _ fun a' w'' h1 h2 => ⟨h1, h2⟩)
theorem wpG_end {listed : Array Bool} {a : Act} {w : World} (hr : (Region.ready md ops listed).isEmpty = true) (h : ∀ w', G w w' → Q .normal a w') : ∀ fuel, wpG P md ops Q G T fuel listed a w
  | 0 => ⟨by simpa using hr, h⟩
  | _ + 1 => ⟨fun _ => h, fun i hi => by
      have : Region.ready md ops listed = [] := by simpa using hr
      rw [this] at hi; cases hi⟩
/-- A new variable of a struct's type, and the value stored into it. -/
theorem wpG_new {l : List Oper} {α : Type} [Enc α] {fuel : Nat} {listed : Array Bool} {t : TypeId} {a : Act} {w : World} (t1 t2 : Nat) (o1 o2 : Oper) (ho1 : nthO l t1 = some o1) (ho2 : nthO l t2 = some o2) (hr1 : (Region.ready md l.toArray listed == [t1]) = true) (hr2 : (Region.ready md l.toArray (listed.setIfInBounds t1 true) == [t2]) = true) (hg1 : o1.guard = none) (hg2 : o2.guard = none) (hT : T.contains t2 = true) (x y : Operand) (hp1 : o1.op = .alloc t) (hp2 : o2.op = .store t x y) (z u : α)
    (hal : ∀ w, (gAlloc t).run P w = .ok (.pointer (some ⟨w.heap.size, 0, none⟩)) (w.alloc (.cells (Enc.enc z).toArray t))) (ha : sizeT P t = Enc.n α)
    (hx : ∀ p, (a.put o1.dst p).eval x = p) (hy : ∀ p, (a.put o1.dst p).eval y = .agg (Enc.enc u).toArray)
    (hGa : ∀ w o, G w (w.alloc o)) (hGb : ∀ a b, G a b → Bel a b)
    (h : ∀ (g : Nat) (w1 w2 : World), G w w1 → g = w1.heap.size → Bel w1 w2 → get? α w2 ⟨g, 0, none⟩ = some u → g < w2.heap.size → wpG P md l.toArray Q G T fuel ((listed.setIfInBounds t1 true).setIfInBounds t2 true) ((a.put o1.dst (.pointer (some ⟨g, 0, none⟩))).put o2.dst undef) w2) : wpG P md l.toArray Q G T (fuel + 1 + 1) listed a w := by
  refine wpG_force t1 o1 ho1 hr1 hg1 fun w1 hw1 K hK => ?_
  have e1 := hal w1
  unfold gAlloc at e1
  unfold Oper.wp execOp
  simp only [hp1, Sem.run_bind]
  rw [e1]
  refine hK _ _ (fun _ => hGa _ _) ?_
  refine wpG_force t2 o2 ho2 hr2 hg2 fun w2 hw2 K hK => ?_
  have hbel := hGb _ _ hw2
  have hlt : w1.heap.size < (w1.alloc (.cells (Enc.enc z).toArray t)).heap.size := by simp
  have hget : get? α w2 ⟨w1.heap.size, 0, none⟩ = some z := (get?_below hbel (by exact hlt)).trans (get?_new t z)
  have hfree : blkFree w2 w1.heap.size = true := (blkFree_keep (hbel.block _ hlt)).trans (blkFree_new _ _ rfl)
  have hst := run_gStore (P := P) (t := t) (w := w2) (a := ⟨w1.heap.size, 0, none⟩) ha u (Option.isSome_iff_exists.2 ⟨z, hget⟩) hfree
  unfold gStore at hst
  unfold Oper.wp execOp
  simp only [hp2, Sem.run_bind, hx, hy]
  rw [hst]
  have hsz := hbel.size
  simp only [World.size_alloc] at hsz
  refine hK _ _ (fun hne => absurd (by simpa using hT) hne) (h _ w1 _ hw1 rfl ?_ ?_ ?_)
  · exact Below_putCells (Below.trans ((Below.refl _ _).alloc (Nat.le_refl _) _) (Below.mono hbel (by simp))) (Nat.le_refl _) _
  · rw [get?_iff]
    intro j v hj
    have hjl : j < Enc.n α := by have := (List.getElem?_eq_some_iff.1 hj).1; rwa [Enc.len] at this
    have hadd : ∀ i, (⟨w1.heap.size, 0, none⟩ : Addr).add i = ⟨w1.heap.size, i, none⟩ := fun i => by unfold Addr.add; split <;> simp_all
    rw [hadd]
    have hc := get?_iff.1 hget j ((Enc.enc z)[j]'(by rw [Enc.len]; exact hjl)) (List.getElem?_eq_getElem _)
    rw [hadd] at hc
    unfold World.putCells
    rw [cell_putFrom (a := ⟨w1.heap.size, 0, none⟩) rfl (Enc.enc u) 0 w2 ⟨w1.heap.size, j, none⟩ rfl (by rw [hc]; rfl)]
    rw [if_pos ⟨rfl, by simp, by simpa [Enc.len] using hjl⟩]
    simpa using hj
  · rw [size_putCells]; omega
theorem wp_region_G {id : Nat} {a : Act} {w : World} {l : List Oper} (G : World → World → Prop) (T : List Nat) (hrf : ∀ a, G a a) (hm : P.follows .mixedOrders = true)
    (h : wpG P .any l.toArray Q G T l.toArray.size (Array.replicate l.toArray.size false) a w.drew) : (Code.region id l.toArray true).wp P Q a w :=
  wp_region_any hm (wpAny_of_G hrf _ _ _ _ h)
end

/-- New blocks and draws; what was there stands. -/
def GB (w w' : World) : Prop := Below w.heap.size w w'
theorem GB.rf (a : World) : GB a a := Below.refl _ _
theorem GB.tr (a b c : World) (h : GB a b) (k : GB b c) : GB a c := Below.trans h (Below.mono k (Below.size h))
theorem GB.drewN (a : World) (n : Nat) : GB a (a.drewN n) := bdN (Below.refl _ _) n
theorem GB.al (w : World) (o : Obj) : GB w (w.alloc o) := (Below.refl _ _).alloc (Nat.le_refl _) o
theorem GB.bel (a b : World) (h : GB a b) : Bel a b := h
theorem GB.undrew {w w' : World} (h : GB w.drew w') : Bel w w' := by
  have h0 : Below w.drew.heap.size w.drew w' := h
  exact ⟨h0.os, h0.tape, h0.output, h0.size, h0.block⟩
theorem GB.cell {w w' : World} (h : GB w w') {p : Addr} {v : Value} (hc : w.cell? p = some v) : w'.cell? p = some v := (Below.cell h (World.block_lt_of_cell? w _ hc)).trans hc
theorem GB.get {α : Type} [Enc α] {w w' : World} (h : GB w w') {p : Addr} {x : α} (hc : get? α w p = some x) : get? α w' p = some x := (get?_below h (get?_lt hc)).trans hc
theorem quietG {P : Program} {f : FuncId} {args : Array Value} {w : World} {v : Value} {R : Ending → World → Prop} (h : Calls P f args w R) (hR : ∀ e w', R e w' → e = .returned v ∧ w' = w) : Calls P f args w fun e w' => e = .returned v ∧ GB w w' :=
  h.mono fun e w' h => by obtain ⟨h1, h2⟩ := hR e w' h; subst h2; exact ⟨h1, GB.rf _⟩
/-- .. but for one block. -/
def GX (r : Nat) (w w' : World) : Prop := w.grownBy w' (some r)
theorem GX.rf {r : Nat} (a : World) : GX r a a := ⟨rfl, rfl, rfl, Nat.le_refl _, fun _ _ _ => rfl⟩
theorem GX.tr {r : Nat} (a b c : World) (h : GX r a b) (k : GX r b c) : GX r a c := World.grownBy.trans h k
end Go.Gv
/- Regions with two operations ready at once; a field of a struct written. Conditions: those named in each theorem. -/
namespace Go.Gv
open Go Go.RowKit
section
variable {P : Program} {md : Region.Mode} {Q : Exit → Act → World → Prop} {G : World → World → Prop} {T : List Nat}
/-- Two operations are ready. -/
theorem wpG_two {l : List Oper} {fuel : Nat} {listed : Array Bool} {a : Act} {w : World} (t1 t2 : Nat) (o1 o2 : Oper) (ho1 : nthO l t1 = some o1) (ho2 : nthO l t2 = some o2) (hr : (Region.ready md l.toArray listed == [t1, t2]) = true) (hg1 : o1.guard = none) (hg2 : o2.guard = none)
    (h1 : ∀ w', G w w' → ∀ K : Act → World → Prop, (∀ a' w'', (t1 ∉ T → G w' w'') → wpG P md l.toArray Q G T fuel (listed.setIfInBounds t1 true) a' w'' → K a' w'') → o1.wp P a w' K Q)
    (h2 : ∀ w', G w w' → ∀ K : Act → World → Prop, (∀ a' w'', (t2 ∉ T → G w' w'') → wpG P md l.toArray Q G T fuel (listed.setIfInBounds t2 true) a' w'' → K a' w'') → o2.wp P a w' K Q) : wpG P md l.toArray Q G T (fuel + 1) listed a w := by
  have ho1 : l.toArray[t1]? = some o1 := by rw [← ho1, nthO_eq]; simp
  have ho2 : l.toArray[t2]? = some o2 := by rw [← ho2, nthO_eq]; simp
  have hr' : Region.ready md l.toArray listed = [t1, t2] := by simpa using hr
  refine ⟨fun h0 => (by rw [hr'] at h0; cases h0), fun i hi w' hw' => ?_⟩
  rw [hr'] at hi
  simp only [List.mem_cons, List.not_mem_nil, or_false] at hi
  unfold Go.wpOp
  rcases hi with rfl | rfl
  · simp only [ho1]
    rw [if_pos (by simp [Region.wanted, hg1])]
    exact .inl (h1 w' hw' _ fun a' w'' k1 k2 => ⟨k1, k2⟩)
  · simp only [ho2]
    rw [if_pos (by simp [Region.wanted, hg2])]
    exact .inl (h2 w' hw' _ fun a' w'' k1 k2 => ⟨k1, k2⟩)
theorem wpLooksG_on {ops : Array Oper} {ι : Type} {W : ι → World} {K : Act → Prop} {a : Act} {o : Oper} {rest : List Oper} (v : Value) (hw : Region.wanted o (yielded ops a.tmps) = true) (hv : ∀ z, lookUponG P G (W z) v ((execOp a.eval o).run P (W z))) (h : wpLooksG P ops G W K rest (a.put o.dst v)) : wpLooksG P ops G W K (o :: rest) a := by
  unfold wpLooksG
  rw [if_pos hw]
  exact ⟨v, hv, h⟩
theorem wpLooksG_off {ops : Array Oper} {ι : Type} {W : ι → World} {K : Act → Prop} {a : Act} {o : Oper} {rest : List Oper} (hw : Region.wanted o (yielded ops a.tmps) = false) (h : wpLooksG P ops G W K rest (a.put o.dst undef)) : wpLooksG P ops G W K (o :: rest) a := by
  unfold wpLooksG
  rw [if_neg (by rw [hw]; decide)]
  exact h
end
theorem get?_poke {α : Type} [Enc α] {w : World} {g j : Nat} {x y : α} {v : Value} (h : get? α w ⟨g, 0, none⟩ = some x) (hy : Enc.enc y = (Enc.enc x).set j v) : get? α (w.setCell ⟨g, j, none⟩ v) ⟨g, 0, none⟩ = some y := by
  have hadd : ∀ i, (⟨g, 0, none⟩ : Addr).add i = ⟨g, i, none⟩ := fun i => by unfold Addr.add; split <;> simp_all
  rw [get?_iff] at h ⊢
  intro i u hu
  have hlen : (Enc.enc x).length = Enc.n α := Enc.len x
  rw [hadd]
  have hi : i < (Enc.enc x).length := by have := (List.getElem?_eq_some_iff.1 hu).1; rw [Enc.len] at this; omega
  have hx := h i _ (List.getElem?_eq_getElem hi)
  rw [hadd] at hx
  rw [hy] at hu
  by_cases e : j = i
  · subst e
    rw [World.cell?_setCell_same w _ v hx]
    rw [List.getElem?_set_self hi] at hu; exact hu
  · rw [World.cell?_setCell_other w _ _ v (fun h => e (by injection h)), hx]
    rw [List.getElem?_set_ne e, List.getElem?_eq_getElem hi] at hu; exact hu
end Go.Gv
/- A move in a region that leaves its order open may come whenever. Conditions: those named in each theorem. -/
namespace Go.Gv
open Go Go.RowKit
section
variable {P : Program} {ops : Array Oper} {md : Region.Mode} {Q : Exit → Act → World → Prop} {G : World → World → Prop} {T : List Nat}
theorem exec_move {a : Act} {o : Oper} {x : Operand} (hop : o.op = .move x) (w : World) : (execOp a.eval o).run P w = .ok (.value (a.eval x)) w := by
  cases o; simp only at hop; subst hop; simp [execOp]
theorem yields_move {a : Act} {o : Oper} {x : Operand} (hop : o.op = .move x) (hg : o.guard = none) (w : World) : YieldsG P ops (fun _ _ => True) w o (a.eval x) a :=
  .inl ⟨by simp [Region.wanted, hg], fun w' _ => by rw [exec_move hop]; exact ⟨rfl, rfl⟩⟩
theorem wpG_move_aux {i : Nat} {oi : Oper} {x : Operand} {v : Value} (hi : ops[i]? = some oi) (hop : oi.op = .move x) (hg : oi.guard = none) (hrf : ∀ a, G a a) (ht : ∀ a b c, G a b → G b c → G a c) (hsel : ∀ (j : Nat) (o : Oper) cs b, ops[j]? = some o → o.op ≠ .select cs b)
    (hQ : ∀ c (a a' : Act) w, a.defers = a'.defers → Q (.panic c) a w → Q (.panic c) a' w) :
    ∀ (fuel : Nat) (listed : Array Bool) (a : Act) (w : World),
      (∀ j oj, ops[j]? = some oj → j ≠ i → listed.getD j true = false → (∀ e ∈ oj.after, Region.binds md e = true → e.on ≠ i) → oi.apart ops oj = true) →
      i ∈ Region.ready md ops listed → (∀ w, YieldsG P ops (fun _ _ => True) w oi v a) →
      wpG P md ops Q G T fuel (listed.setIfInBounds i true) (a.put oi.dst v) w → wpG P md ops Q G T (fuel + 1) listed a w := by
  have here : ∀ (a : Act) (w : World) (K : Act → World → Prop), (∀ w, YieldsG P ops (fun _ _ => True) w oi v a) → K (a.put oi.dst v) w → wpOp P ops Q i K a w := by
    intro a w K hy hK
    unfold Go.wpOp
    simp only [hi]
    rw [if_pos (by simp [Region.wanted, hg])]
    refine .inl ?_
    unfold Oper.wp
    rcases hy w with ⟨_, hv⟩ | ⟨hw, _⟩
    · have h1 := hv w trivial
      rw [exec_move hop] at h1 ⊢
      simp only [lookUponG] at h1
      simp only [Oper.upon]
      rw [h1.2]; exact hK
    · simp [Region.wanted, hg] at hw
  intro fuel
  induction fuel with
  | zero =>
    intro listed a w _ hr hy H
    refine ⟨fun h => (by rw [h] at hr; cases hr), fun j hj w' hw' => ?_⟩
    by_cases hji : j = i
    · subst hji
      exact here a w' _ hy ⟨fun _ => hrf _, wpG_ext ht H hw'⟩
    · have := ready_mono hj hji
      rw [H.1] at this
      cases this
  | succ fuel ih =>
    intro listed a w hfree hr hy H
    refine ⟨fun h => (by rw [h] at hr; cases hr), fun j hj w' hw' => ?_⟩
    by_cases hji : j = i
    · subst hji
      exact here a w' _ hy ⟨fun _ => hrf _, wpG_ext ht H hw'⟩
    · have h1 := H.2 j (ready_mono hj hji) w' hw'
      obtain ⟨hjun, oj, hoj, hall⟩ := mem_ready.1 hj
      have hun : listed.getD i true = false := (mem_ready.1 hr).1
      have hun2 : listed.getD i false = false := by
        rcases Nat.lt_or_ge i listed.size with h' | h'
        · simpa [h'] using hun
        · simp [Array.getElem?_eq_none h'] at hun
      have hnot : ∀ e ∈ oj.after, Region.binds md e = true → e.on ≠ i := fun e he hb heq => by
        have h1 := hall e he hb
        rw [heq, hun2] at h1; cases h1
      have h2 := wpOp_putG (G := fun _ _ => True) hoj (hfree j oj hoj hji hjun hnot) (fun cs b => hsel i oi cs b hi) (fun cs b => hsel j oj cs b hoj) (fun c a w h => hQ c _ _ w (by cases oi.dst <;> rfl) h) (hy w) h1
      have hfree' : ∀ k ok, ops[k]? = some ok → k ≠ i → (listed.setIfInBounds j true).getD k true = false →
          (∀ e ∈ ok.after, Region.binds md e = true → e.on ≠ i) → oi.apart ops ok = true := fun k ok hk hki hun hno => by
        refine hfree k ok hk hki ?_ hno
        by_cases hjk : j = k
        · subst hjk; exact hjun
        · rw [getD_set_ne true hjk] at hun; exact hun
      refine wpOp_mono (fun a' w'' h3 => ⟨h3.2.1, ?_⟩) h2
      obtain ⟨hy', hG, h4⟩ := h3
      refine ih (listed.setIfInBounds j true) a' w'' hfree' (ready_mono hr (Ne.symm hji)) (fun w0 => hy'.ext (fun _ _ _ _ _ => trivial) trivial) ?_
      rw [Array.setIfInBounds_comm _ _ hji]
      exact h4
/-- A move is taken first, whatever else is ready. -/
theorem wpG_move {l : List Oper} {fuel : Nat} {listed : Array Bool} {a : Act} {w : World} (i : Nat) (o : Oper) (x : Operand) (ho : nthO l i = some o) (hop : o.op = .move x) (hg : o.guard = none) (hrf : ∀ a, G a a) (ht : ∀ a b c, G a b → G b c → G a c) (hs : Region.noSelect l.toArray = true)
    (hQ : ∀ c (a a' : Act) w, a.defers = a'.defers → Q (.panic c) a w → Q (.panic c) a' w) (hB : ((Region.ready md l.toArray listed).contains i && Region.free md l.toArray listed i) = true)
    (h : wpG P md l.toArray Q G T fuel (listed.setIfInBounds i true) (a.put o.dst (a.eval x)) w) : wpG P md l.toArray Q G T (fuel + 1) listed a w := by
  have ho : l.toArray[i]? = some o := by rw [← ho, nthO_eq]; simp
  rw [Bool.and_eq_true, List.contains_iff_mem] at hB
  exact wpG_move_aux ho hop hg hrf ht (Region.noSelect_spec hs) hQ fuel listed a w (Region.free_spec ho hB.2) hB.1 (fun w => yields_move hop hg w) h
end
end Go.Gv
