/- Values of Go structs as Lean values: typed readings of memory, and the runs of single operations over them. Conditions: those named in each theorem. -/
import Derived.WalkKit
import Derived.WalkSpells
import Derived.WalkLawsBesides
import Derived.Lib.Hide
import Derived.Deep.QuietTactic
import Derived.BigQuiet
import Derived.StillTailTactics
namespace Go.Gv
open Go Go.RowKit
set_option linter.unusedSectionVars false
set_option linter.unusedSimpArgs false

/-- The world has the cells cs from a on. -/
def At (w : World) (a : Addr) (cs : List Value) : Prop := ∀ j v, cs[j]? = some v → w.cell? (a.add j) = some v

/-- A type of Lean's whose values are written as a row of cells. -/
class Enc (α : Type) where
  n : Nat
  enc : α → List Value
  pos : 0 < n
  len : ∀ x, (enc x).length = n
  one : ∀ x, ∀ u ∈ enc x, u.oneCell' = true
  inj : ∀ x y, enc x = enc y → x = y

theorem add_add (a : Addr) (i j : Nat) : (a.add i).add j = a.add (i + j) := by
  unfold Addr.add
  by_cases hi : i = 0 <;> by_cases hj : j = 0 <;> simp [hi, hj, Nat.add_assoc]
@[go_sem] theorem add_block (a : Addr) (n : Nat) : (a.add n).block = a.block := by unfold Addr.add; split <;> rfl

theorem At.block_lt {w : World} {a : Addr} {cs : List Value} (h : At w a cs) (hl : 0 < cs.length) : a.block < w.heap.size := by
  have := h 0 cs[0] (List.getElem?_eq_getElem hl)
  have := World.block_lt_of_cell? w _ this
  rwa [add_block] at this

theorem At.keep {w w' : World} {a : Addr} {cs : List Value} (h : At w a cs) (hk : w'.heap[a.block]? = w.heap[a.block]?) : At w' a cs := by
  intro j v hv
  rw [World.cell?_of_block (w := w) (by rw [add_block]; exact hk)]
  exact h j v hv

theorem At.sub {w : World} {a : Addr} {cs ds : List Value} (h : At w a cs) (k : Nat) (hd : ∀ j v, ds[j]? = some v → cs[k + j]? = some v) : At w (a.add k) ds := by
  intro j v hv
  rw [add_add]
  exact h _ _ (hd j v hv)

theorem At.unique {w : World} {a : Addr} {cs ds : List Value} (h : At w a cs) (h' : At w a ds) (hl : cs.length = ds.length) : cs = ds := by
  apply List.ext_getElem?
  intro j
  cases hc : cs[j]? with
  | none =>
    have : cs.length ≤ j := by simpa using hc
    exact (List.getElem?_eq_none (by omega)).symm
  | some v =>
    have hj : j < cs.length := (List.getElem?_eq_some_iff.1 hc).1
    have hd : ds[j]? = some (ds[j]'(by omega)) := List.getElem?_eq_getElem (by omega)
    have e1 := h j v hc
    have e2 := h' j _ hd
    rw [e1] at e2
    rw [hd]; exact e2

open Classical in
/-- The value of the type α at a, if there is one. -/
noncomputable def get? (α : Type) [Enc α] (w : World) (a : Addr) : Option α :=
  if h : ∃ x : α, At w a (Enc.enc x) then some h.choose else none

section
variable {α : Type} [Enc α] {w w' : World} {a : Addr} {x : α}
theorem get?_iff : get? α w a = some x ↔ At w a (Enc.enc x) := by
  unfold get?
  constructor
  · intro h
    split at h
    · rename_i hx; have := hx.choose_spec; injection h with h; rwa [h] at this
    · cases h
  · intro h
    have hx : ∃ x : α, At w a (Enc.enc x) := ⟨x, h⟩
    rw [dif_pos hx]
    have h2 := hx.choose_spec
    have := Enc.inj _ _ (At.unique h2 h (by rw [Enc.len, Enc.len]))
    rw [this]
theorem get?_keep (hk : w'.heap[a.block]? = w.heap[a.block]?) : get? α w' a = get? α w a := by
  have hiff : ∀ x : α, At w' a (Enc.enc x) ↔ At w a (Enc.enc x) := fun x => ⟨fun h => h.keep hk.symm, fun h => h.keep hk⟩
  have : ∀ y : α, get? α w' a = some y ↔ get? α w a = some y := fun y => by rw [get?_iff, get?_iff, hiff]
  cases h : get? α w a with
  | some y => exact (this y).2 h
  | none =>
    cases h' : get? α w' a with
    | none => rfl
    | some y => have := (this y).1 h'; rw [h] at this; cases this
theorem get?_lt (h : get? α w a = some x) : a.block < w.heap.size := (get?_iff.1 h).block_lt (by rw [Enc.len]; exact Enc.pos (α := α))
@[go_sem] theorem get?_alloc_lt (o : Obj) (h : a.block < w.heap.size) : get? α (w.alloc o) a = get? α w a := get?_keep (Below.heap_alloc _ _ _ h)
theorem get?_alloc (o : Obj) (h : get? α w a = some x) : get? α (w.alloc o) a = some x := (get?_alloc_lt o (get?_lt h)).trans h
@[go_sem, simp] theorem get?_drew : get? α w.drew a = get? α w a := get?_keep rfl
@[go_sem, simp] theorem get?_drewN (n : Nat) : get? α (w.drewN n) a = get? α w a := get?_keep rfl
theorem get?_below {B : Nat} (hb : Below B w w') (ha : a.block < B) : get? α w' a = get? α w a := get?_keep (hb.block _ ha)
theorem get?_setCell (p : Addr) (u : Value) (h : a.block ≠ p.block) : get? α (w.setCell p u) a = get? α w a := get?_keep (Below.heap_setCell _ _ _ _ h)
theorem get?_new (t : TypeId) (x : α) : get? α (w.alloc (.cells (Enc.enc x).toArray t)) ⟨w.heap.size, 0, none⟩ = some x := by
  rw [get?_iff]
  intro j v hv
  have : (⟨w.heap.size, 0, none⟩ : Addr).add j = ⟨w.heap.size, j, none⟩ := by unfold Addr.add; split <;> simp_all
  rw [this]
  simp [hv]
end

/-- A slice's value (address, length, capacity) reads as the list xs of values of α, all of it below block B. -/
def Sl (α : Type) [Enc α] (w : World) (B : Nat) (A : Option Addr) (len : Nat) (xs : List α) : Prop :=
  xs.length = len ∧ (0 < len → ∃ ad, A = some ad ∧ ad.block < B ∧ ∀ k x, xs[k]? = some x → get? α w (ad.add (k * Enc.n α)) = some x)

section
variable {α : Type} [Enc α] {w w' : World} {B B' : Nat} {A : Option Addr} {len : Nat} {xs : List α}
theorem Sl.nil : Sl α w B A 0 [] := ⟨rfl, fun h => by omega⟩
theorem Sl.at_ (h : Sl α w B A len xs) {k : Nat} (hk : k < len) : ∃ ad x, A = some ad ∧ ad.block < B ∧ xs[k]? = some x ∧ get? α w (ad.add (k * Enc.n α)) = some x := by
  obtain ⟨ad, rfl, hb, hg⟩ := h.2 (by omega)
  have hl := h.1
  exact ⟨ad, xs[k]'(by omega), rfl, hb, List.getElem?_eq_getElem (by omega), hg k _ (List.getElem?_eq_getElem (by omega))⟩
theorem Sl.below (h : Sl α w B A len xs) (hb : Below B w w') : Sl α w' B A len xs :=
  ⟨h.1, fun hn => by
    obtain ⟨ad, e, hB, hc⟩ := h.2 hn
    exact ⟨ad, e, hB, fun k x hx => (get?_below hb (by rw [add_block]; exact hB)).trans (hc k x hx)⟩⟩
theorem Sl.more (h : Sl α w B A len xs) (hB : B ≤ B') : Sl α w B' A len xs :=
  ⟨h.1, fun hn => by
    obtain ⟨ad, e, hb, hc⟩ := h.2 hn
    exact ⟨ad, e, by omega, hc⟩⟩
theorem Sl.take (h : Sl α w B A len xs) {k : Nat} (hk : k ≤ len) : Sl α w B A k (xs.take k) := by
  refine ⟨by rw [List.length_take, h.1]; omega, fun hn => ?_⟩
  obtain ⟨ad, e, hb, hc⟩ := h.2 (by omega)
  refine ⟨ad, e, hb, fun j x hx => hc j x ?_⟩
  rw [List.getElem?_take] at hx
  split at hx
  · exact hx
  · cases hx
theorem Sl.drop (h : Sl α w B A len xs) {k : Nat} (hk : k < len) : ∃ ad, A = some ad ∧ Sl α w B (some (ad.add (k * Enc.n α))) (len - k) (xs.drop k) := by
  obtain ⟨ad, e, hb, hc⟩ := h.2 (by omega)
  refine ⟨ad, e, by rw [List.length_drop, h.1], fun _ => ⟨_, rfl, by rw [add_block]; exact hb, fun j x hx => ?_⟩⟩
  rw [add_add, ← Nat.add_mul]
  exact hc _ _ (by rw [← hx, List.getElem?_drop])
theorem Sl.of_own {base e c : Nat} {v : Value} (h : w.ownsRow base e (Enc.n α) v len (xs.flatMap Enc.enc)) (hv : v = .slice A len c) (hl : xs.length = len) : Sl α w w.heap.size A len xs := by
  subst hv
  refine ⟨hl, fun hn => ?_⟩
  rcases h.2 with ⟨_, h0⟩ | ⟨g, cap, cur, hv, _, hh, _, _, hsz, htake⟩
  · omega
  · injection hv with hA _ _
    subst hA
    have hlt : g < w.heap.size := (Array.getElem?_eq_some_iff.1 hh).1
    refine ⟨_, rfl, hlt, fun k x hx => ?_⟩
    rw [get?_iff]
    intro j u hu
    rw [add_add]
    refine h.cells (g := g) rfl _ _ ?_
    have hj : j < Enc.n α := by have := (List.getElem?_eq_some_iff.1 hu).1; rwa [Enc.len] at this
    clear h htake hsz hh hn hl
    induction xs generalizing k with
    | nil => simp at hx
    | cons y ys ih =>
      cases k with
      | zero =>
        simp at hx; subst hx
        simp only [List.flatMap_cons, Nat.zero_mul, Nat.zero_add]
        rw [List.getElem?_append_left (by rw [Enc.len]; exact hj)]; exact hu
      | succ k =>
        simp only [List.flatMap_cons, Nat.add_mul, Nat.one_mul]
        rw [List.getElem?_append_right (by rw [Enc.len]; omega), Enc.len]
        have := ih k (by simpa using hx)
        rw [← this]; congr 1; omega
end


/-! ### Runs of single operations over such values -/
def aggT (P : Program) (t : TypeId) : Bool := match P.underlying t with | some (.struct _) | some (.array _ _) => true | _ => false
def sizeT (P : Program) (t : TypeId) : Nat := match P.info? t with | some i => i.size | none => 0
def zeroT (P : Program) (t : TypeId) : Option Value := (P.info? t).bind (·.zero)

section
variable {P : Program} {t : TypeId}
theorem run_isAgg (h : aggT P t = true) (w : World) : (isAgg t).run P w = .ok true w := by
  unfold aggT at h
  unfold isAgg
  cases hu : P.underlying t with
  | none => simp [hu] at h
  | some d =>
    rw [Sem.run_bind, run_underlying hu w]
    cases d <;> simp_all
theorem run_sizeOf {n : Nat} (h : sizeT P t = n) (hn : 0 < n) (w : World) : (sizeOf t).run P w = .ok n w := by
  unfold sizeT at h
  cases hi : P.info? t with
  | none => simp [hi] at h; omega
  | some i => simp [hi] at h; simp [sizeOf, typeInfo, hi, h]
theorem run_zeroValue {z : Value} (h : zeroT P t = some z) (w : World) : (zeroValue t).run P w = .ok z w := by
  unfold zeroT at h
  cases hi : P.info? t with
  | none => simp [hi] at h
  | some i => simp [hi] at h; simp [zeroValue, typeInfo, hi, h]
variable {α : Type} [Enc α]
theorem run_loadCells_at {w : World} {a : Addr} {cs : List Value} (h : At w a cs) : (loadCells a cs.length).run P w = .ok cs.toArray w := run_loadCells_list w a cs h
theorem run_loadVar_get {w : World} {a : Addr} (ha : aggT P t = true) (hs : sizeT P t = Enc.n α) {x : α} (h : get? α w a = some x) :
    (loadVar t a).run P w = .ok (.agg (Enc.enc x).toArray) w := by
  have hl := run_loadCells_at (P := P) (get?_iff.1 h)
  rw [Enc.len] at hl
  simp [loadVar, Sem.run_bind, run_isAgg ha, run_sizeOf hs Enc.pos, hl]
theorem run_loadAt_get {w : World} {a : Addr} (ha : aggT P t = true) (hs : sizeT P t = Enc.n α) {x : α} (h : get? α w a = some x) :
    (Instr.loadAt t (.pointer (some a))).run P w = .ok (.agg (Enc.enc x).toArray) w := by
  simp [Instr.loadAt, Instr.sureAddr, run_loadVar_get ha hs h]
@[irreducible] def noLoad (P : Program) (t : TypeId) (a : Addr) (w : World) : Result Value := (Instr.loadAt t (.pointer (some a))).run P w
def ofOpt (o : Option Value) (w : World) (r : Result Value) : Result Value := match o with | some v => .ok v w | none => r
@[simp, go_sem] theorem ofOpt_some (v : Value) (w : World) (r : Result Value) : ofOpt (some v) w r = .ok v w := rfl
theorem run_loadAt_opt {w : World} {a : Addr} (ha : aggT P t = true) (hs : sizeT P t = Enc.n α) (val : α → Value) (hv : ∀ x, val x = .agg (Enc.enc x).toArray) :
    (Instr.loadAt t (.pointer (some a))).run P w = ofOpt ((get? α w a).map val) w (noLoad P t a w) := by
  cases h : get? α w a with
  | some x => simp only [run_loadAt_get ha hs h, hv, Option.map_some, ofOpt_some]
  | none => simp only [noLoad, Option.map_none, ofOpt]
/-! The operations at a type of cells, closed to simp. -/
@[irreducible] def gLoad (t : TypeId) (a : Value) : Sem Value := Instr.loadAt t a
@[irreducible] def gStore (t : TypeId) (a x : Value) : Sem Unit := Instr.storeAt t a x
@[irreducible] def gField (t : TypeId) (x : Value) (i : Nat) : Sem Value := Instr.field t x i
@[irreducible] def gBox (t : TypeId) (x : Value) : Sem Value := Instr.box t x
@[irreducible] def gAlloc (t : TypeId) : Sem Value := Instr.alloc t true (.tuple #[])
@[irreducible] def gBuild (t : TypeId) (ps : Array (Nat × Value)) : Sem Value := Instr.build t ps
@[irreducible] def gBuildSlice (t : TypeId) (n : Nat) (ps : Array (Nat × Value)) : Sem Value := Instr.buildSlice t n ps
@[irreducible] def gIndex (t : TypeId) (x i : Value) : Sem Value := Instr.index t x i
@[irreducible] def gBin (op : BinOp) (t : TypeId) (ox oy : Operand) (x y : Value) : Sem Value := do eqGuard op t ox oy x y; binOp op t x y
section
variable (ρ : Operand → Value) (dst : Option Tmp) (x y : Operand) (ty : TypeId) (pos : String) (after : Array Edge) (guard : Option (Nat × Bool)) (t : TypeId)
theorem ex_load : execOp ρ { dst, op := .load t x, type := ty, pos, after, guard } = (do pure (.value (← gLoad t (ρ x)))) := by unfold gLoad; rfl
theorem ex_store : execOp ρ { dst, op := .store t x y, type := ty, pos, after, guard } = (do gStore t (ρ x) (ρ y); pure .skip) := by unfold gStore; rfl
theorem ex_field (i : Nat) : execOp ρ { dst, op := .field t x i, type := ty, pos, after, guard } = (do pure (.value (← gField t (ρ x) i))) := by unfold gField; rfl
theorem ex_box : execOp ρ { dst, op := .box t x, type := ty, pos, after, guard } = (do pure (.value (← gBox t (ρ x)))) := by unfold gBox; rfl
theorem ex_alloc : execOp ρ { dst, op := .alloc t, type := ty, pos, after, guard } = (do pure (.value (← gAlloc t))) := by unfold gAlloc; rfl
theorem ex_build (ps : Array (Nat × Operand)) : execOp ρ { dst, op := .build t ps, type := ty, pos, after, guard } = (do pure (.value (← gBuild t (ps.map fun (i, x) => (i, ρ x))))) := by unfold gBuild; rfl
theorem ex_buildSlice (n : Nat) (ps : Array (Nat × Operand)) : execOp ρ { dst, op := .buildSlice t n ps, type := ty, pos, after, guard } = (do pure (.value (← gBuildSlice t n (ps.map fun (i, x) => (i, ρ x))))) := by unfold gBuildSlice; rfl
theorem ex_index : execOp ρ { dst, op := .index t x y, type := ty, pos, after, guard } = (do pure (.value (← gIndex t (ρ x) (ρ y)))) := by unfold gIndex; rfl
theorem ex_eql (yt : TypeId) : execOp ρ { dst, op := .binOp .eql t x y yt, type := ty, pos, after, guard } = (do pure (.value (← gBin .eql t x y (ρ x) (ρ y)))) := by unfold gBin; rfl
theorem ex_neq (yt : TypeId) : execOp ρ { dst, op := .binOp .neq t x y yt, type := ty, pos, after, guard } = (do pure (.value (← gBin .neq t x y (ρ x) (ρ y)))) := by unfold gBin; rfl
end
/-- A part of a struct's or an array's value, itself a struct or an array. -/
theorem run_part_agg {w : World} {cs ds : List Value} {off : Nat} (ha : aggT P t = true) (hs : sizeT P t = ds.length) (hp : 0 < ds.length)
    (h : (cs.drop off).take ds.length = ds) : (part t cs.toArray off).run P w = .ok (.agg ds.toArray) w := by
  simp only [part, Sem.run_bind, run_isAgg ha, Result.andThen_ok, run_sizeOf hs hp, if_true, Sem.run_pure]
  congr 2
  apply Array.ext'
  simp [List.extract_eq_take_drop, h]
theorem run_isAgg_not (h : aggT P t = false) (hu : (P.underlying t).isSome = true) (w : World) : (isAgg t).run P w = .ok false w := by
  unfold aggT at h
  unfold isAgg
  cases hu : P.underlying t with
  | none => simp_all
  | some d =>
    rw [Sem.run_bind, run_underlying hu w]
    cases d <;> simp_all
theorem run_part_one {w : World} {cs : List Value} {off : Nat} {v : Value} (ha : aggT P t = false) (hu : (P.underlying t).isSome = true) (h : cs[off]? = some v) :
    (part t cs.toArray off).run P w = .ok v w := by
  simp only [part, Sem.run_bind, run_isAgg_not ha hu, Result.andThen_ok]
  simp [h]
theorem run_field_of {w : World} {fs : Array Field} {f : Field} {cs : List Value} {i : Nat} {v : Value} (hu : P.underlying t = some (.struct fs)) (hf : fs[i]? = some f)
    (h : (part f.type cs.toArray f.offset).run P w = .ok v w) : (Instr.field t (.agg cs.toArray) i).run P w = .ok v w := by
  simp [Instr.field, run_underlying hu, hf, asAgg, h]
theorem run_box_enc {w : World} (x : α) : (Instr.box t (.agg (Enc.enc x).toArray)).run P w = .ok (.pointer (some ⟨w.heap.size, 0, none⟩)) (w.alloc (.cells (Enc.enc x).toArray t)) := by
  simp [Instr.box, newVar, newRow, Value.cells]
end


/-- The walk over an array's places that '==' makes, as a list. -/
def eqPlaces (d : Nat) (e : TypeId) (n : Nat) (xs ys : Array Value) : List Nat → Sem Bool
  | [] => pure true
  | i :: is => do
    let a ← part e xs (i * n)
    let b ← part e ys (i * n)
    let r ← Op.equalIn d e a b
    if (!r) = true then pure false else eqPlaces d e n xs ys is

section
variable {P : Program} {t e : TypeId} {len n : Nat}
theorem run_equalIn_array (d : Nat) (xs ys : Array Value) (ht : P.underlying t = some (.array len e)) (hs : sizeT P e = n) (hn : 0 < n) (w : World) :
    (Op.equalIn (d + 1) t (.agg xs) (.agg ys)).run P w = (eqPlaces d e n xs ys (List.range' 0 len)).run P w := by
  simp only [Op.equalIn, Sem.run_bind, run_underlying ht, Result.andThen_ok, run_sizeOf hs hn]
  rw [Std.Legacy.Range.forIn_eq_forIn_range']
  simp only [Std.Legacy.Range.size, Nat.sub_zero, Nat.add_sub_cancel, Nat.div_one]
  generalize List.range' 0 len = is
  clear ht
  induction is generalizing w with
  | nil => simp [eqPlaces]
  | cons i is ih =>
    simp only [List.forIn_cons, eqPlaces, Sem.run_bind]
    generalize (part e xs (i * n)).run P w = r1
    cases r1 with
    | ok a w1 =>
      simp only [Result.andThen_ok]
      generalize (part e ys (i * n)).run P w1 = r2
      cases r2 with
      | ok b w2 =>
        simp only [Result.andThen_ok]
        generalize (Op.equalIn d e a b).run P w2 = r3
        cases r3 with
        | ok r w3 =>
          cases r
          · simp
          · simp only [Result.andThen_ok]
            simpa using ih w3
        | halt x w3 => simp [Result.andThen]
      | halt x w2 => simp [Result.andThen]
    | halt x w1 => simp [Result.andThen]
end


/-- A slice's value. -/
structure Hdr where
  a : Option Addr
  len : Nat
  cap : Nat
deriving DecidableEq
instance : Inhabited Hdr := ⟨⟨none, 0, 0⟩⟩
@[go_sem] def Hdr.val (h : Hdr) : Value := .slice h.a h.len h.cap

/-- Elements of one cell. -/
structure I64 where
  v : Int
deriving DecidableEq
structure U64 where
  v : Int
deriving DecidableEq
structure U8 where
  v : UInt8
deriving DecidableEq
structure StrV where
  v : ByteArray
deriving DecidableEq
structure BoolV where
  v : Bool
deriving DecidableEq
@[reducible] def enc1 {α : Type} (f : α → Value) (h1 : ∀ x, (f x).oneCell' = true) (hi : ∀ x y, f x = f y → x = y) : Enc α where
  n := 1
  enc := fun x => [f x]
  pos := by omega
  len := fun _ => rfl
  one := by intro x u hu; simp at hu; subst hu; exact h1 x
  inj := by intro x y h; exact hi x y (by simpa using h)
instance : Enc I64 := enc1 (fun x => .int .i64 x.v) (fun _ => rfl) (by intro x y h; injection h with _ h; cases x; cases y; simp at h; rw [h])
instance : Enc U64 := enc1 (fun x => .int .u64 x.v) (fun _ => rfl) (by intro x y h; injection h with _ h; cases x; cases y; simp at h; rw [h])
def encU8 (b : UInt8) : Value := .int .u8 (b.toNat : Int)
theorem encU8_inj {a b : UInt8} (h : encU8 a = encU8 b) : a = b := by
  unfold encU8 at h
  injection h with _ h
  exact UInt8.toNat_inj.1 (by omega)
instance : Enc U8 := enc1 (fun x => encU8 x.v) (fun _ => rfl) (by intro x y h; have := encU8_inj h; cases x; cases y; simp at this; rw [this])
instance : Enc StrV := enc1 (fun x => .string x.v) (fun _ => rfl) (by intro x y h; injection h with h; cases x; cases y; simp at h; rw [h])
instance : Enc BoolV := enc1 (fun x => .bool x.v) (fun _ => rfl) (by intro x y h; injection h with h; cases x; cases y; simp at h; rw [h])
instance : Enc Hdr := enc1 Hdr.val (fun _ => rfl) (by intro x y h; simp only [Hdr.val] at h; injection h with h1 h2 h3; cases x; cases y; simp_all)
theorem get1 {α : Type} [Enc α] {w : World} {a : Addr} {x : α} {v : Value} (he : Enc.enc x = [v]) (h : get? α w a = some x) : w.cell? a = some v := by
  have := get?_iff.1 h 0 v (by rw [he]; rfl)
  simpa [Addr.add] using this

theorem bytes_beq (a b : ByteArray) : (a.toList == b.toList) = decide (a = b) := by
  rw [Bool.eq_iff_iff, beq_iff_eq, decide_eq_true_eq, ByteArray.toList_eq, ByteArray.toList_eq]
  constructor
  · intro h; apply ByteArray.ext; exact Array.ext' h
  · intro h; rw [h]
/-- 32 bytes. -/
structure GHash where
  l : List UInt8
  h : l.length = 32
deriving DecidableEq
instance : Inhabited GHash := ⟨⟨List.replicate 32 0, by simp⟩⟩
def GHash.enc (x : GHash) : List Value := x.l.map encU8
theorem GHash.enc_len (x : GHash) : x.enc.length = 32 := by simp [GHash.enc, x.h]
instance : Enc GHash where
  n := 32
  enc := GHash.enc
  pos := by omega
  len := GHash.enc_len
  one := by
    intro x u hu
    simp only [GHash.enc, List.mem_map] at hu
    obtain ⟨b, _, rfl⟩ := hu; rfl
  inj := by
    intro x y h
    obtain ⟨l, hl⟩ := x; obtain ⟨m, hm⟩ := y
    simp only [GHash.enc] at h
    congr 1
    exact (List.map_inj_right (fun a b => encU8_inj)).1 h
@[irreducible] def GHash.val (x : GHash) : Value := .agg x.enc.toArray
theorem GHash.val_eq (x : GHash) : GHash.val x = .agg (Enc.enc x).toArray := by unfold GHash.val; rfl

theorem eq_hash {P : Program} {tH t8 : TypeId} (u1 : P.underlying tH = some (.array 32 t8)) (s1 : sizeT P t8 = 1) (a8 : aggT P t8 = false) (u8 : P.underlying t8 = some (.int .u8)) (w : World) (d : Nat) (x y : GHash) :
    (Op.equalIn (d + 2) tH (GHash.val x) (GHash.val y)).run P w = .ok (decide (x = y)) w := by
  unfold GHash.val
  rw [Gv.run_equalIn_array (d + 1) _ _ (len := 32) (e := t8) (n := 1) u1 s1 (by omega)]
  have us : (P.underlying t8).isSome = true := by rw [u8]; rfl
  have key : ∀ (k m : Nat), k + m = 32 → (eqPlaces (d + 1) t8 1 x.enc.toArray y.enc.toArray (List.range' k m)).run P w = .ok (decide (x.l.drop k = y.l.drop k)) w := by
    intro k m
    induction m generalizing k with
    | zero =>
      intro hk
      have e1 : x.l.drop k = [] := List.drop_eq_nil_of_le (by rw [x.h]; omega)
      have e2 : y.l.drop k = [] := List.drop_eq_nil_of_le (by rw [y.h]; omega)
      simp [eqPlaces, e1, e2]
    | succ m ih =>
      intro hk
      have hx : k < x.l.length := by rw [x.h]; omega
      have hy : k < y.l.length := by rw [y.h]; omega
      have p1 := run_part_one (P := P) (t := t8) (w := w) (cs := x.enc) (off := k) (v := encU8 x.l[k]) a8 us (by simp [GHash.enc, hx])
      have p2 := run_part_one (P := P) (t := t8) (w := w) (cs := y.enc) (off := k) (v := encU8 y.l[k]) a8 us (by simp [GHash.enc, hy])
      rw [List.range'_succ, eqPlaces]
      simp only [Nat.mul_one, Sem.run_bind, p1, p2, Result.andThen_ok]
      have p3 : (Op.equalIn (d + 1) t8 (encU8 x.l[k]) (encU8 y.l[k])).run P w = .ok (decide (x.l[k] = y.l[k])) w := by
        unfold encU8
        rw [run_equalIn_int w d t8 .u8 .u8 _ _ u8]
        congr 1
        rw [Bool.eq_iff_iff]; simp only [beq_iff_eq, decide_eq_true_eq, ← UInt8.toNat_inj]; omega
      rw [p3]
      simp only [Result.andThen_ok]
      have e1 := List.drop_eq_getElem_cons hx
      have e2 := List.drop_eq_getElem_cons hy
      rw [e1, e2]
      have ih' := ih (k + 1) (by omega)
      by_cases he : x.l[k] = y.l[k]
      · simp [he, ih', -List.getElem_cons_drop]
      · simp [he, -List.getElem_cons_drop]
  have := key 0 32 rfl
  rw [this]
  congr 1
  rw [Bool.eq_iff_iff]
  obtain ⟨a, ha⟩ := x
  obtain ⟨b, hb⟩ := y
  simp

/-! ### Struct results, from runs of parts -/
section
variable {P : Program} {t : TypeId}
theorem run_zero_alloc {z : Value} (hz : zeroT P t = some z) (w : World) : (gAlloc t).run P w = .ok (.pointer (some ⟨w.heap.size, 0, none⟩)) (w.alloc (.cells z.cells t)) := by
  unfold gAlloc
  simp [Instr.alloc, run_zeroValue hz, newVar, newRow]
theorem run_gBox (x : List Value) (w : World) : (gBox t (.agg x.toArray)).run P w = .ok (.pointer (some ⟨w.heap.size, 0, none⟩)) (w.alloc (.cells x.toArray t)) := by
  unfold gBox
  simp [Instr.box, newVar, newRow, Value.cells]
def fieldTO (P : Program) (t : TypeId) : List (TypeId × Nat) := (P.fieldsOf t).toList.map fun f => (f.type, f.offset)
def noBlank (P : Program) (t : TypeId) : Bool := (P.fieldsOf t).toList.all fun f => f.name != "_"
theorem run_gField {cs : List Value} {i : Nat} {ft : TypeId} {off : Nat} {v : Value} (w : World) (hu : P.underlying t = some (.struct (P.fieldsOf t))) (hf : (fieldTO P t)[i]? = some (ft, off))
    (h : (part ft cs.toArray off).run P w = .ok v w) : (gField t (.agg cs.toArray) i).run P w = .ok v w := by
  unfold gField
  unfold fieldTO at hf
  simp only [List.getElem?_map, Array.getElem?_toList, Option.map_eq_some_iff, Prod.mk.injEq] at hf
  obtain ⟨f, h1, rfl, rfl⟩ := hf
  exact run_field_of hu h1 h
/-- The walk over a struct's fields that '==' makes, by their types and places. -/
def eqFs (d : Nat) (xs ys : Array Value) : List (TypeId × Nat) → Sem Bool
  | [] => pure true
  | f :: fs => do
    let a ← part f.1 xs f.2
    let b ← part f.1 ys f.2
    let r ← Op.equalIn d f.1 a b
    if (!r) = true then pure false else eqFs d xs ys fs
theorem run_equalIn_fields (d : Nat) (xs ys : Array Value) (w : World) (ht : P.underlying t = some (.struct (P.fieldsOf t))) (hp : P.stoodInHeld t = false) (hb : noBlank P t = true) :
    (Op.equalIn (d + 1) t (.agg xs) (.agg ys)).run P w = (eqFs d xs ys (fieldTO P t)).run P w := by
  rw [run_equalIn_struct w d t xs ys ht hp]
  unfold fieldTO
  unfold noBlank at hb
  congr 1
  generalize (P.fieldsOf t).toList = fs at hb
  induction fs with
  | nil => rfl
  | cons f fs ih =>
    simp only [List.all_cons, Bool.and_eq_true, bne_iff_ne] at hb
    simp only [Op.eqFields, List.map_cons, eqFs, ih hb.2, hb.1, ne_eq, not_false_eq_true, if_true]
theorem run_gStore_top {x z : List Value} {n : Nat} (w : World) (hn : n = w.heap.size) (hs : sizeT P t = x.length) (hp : 0 < x.length) (hz : z.length = x.length) (h1 : ∀ u ∈ x, u.oneCell' = true) (t' : TypeId) :
    (gStore t (.pointer (some ⟨n, 0, none⟩)) (.agg x.toArray)).run P (w.alloc (.cells z.toArray t')) = .ok () (w.alloc (.cells x.toArray t')) := by
  subst hn
  unfold gStore
  have h0 := heap_alloc_new w (.cells z.toArray t')
  have hst := run_storeCells_from (P := P) w.heap.size t' x 0 z.toArray (w.alloc (.cells z.toArray t')) h0 (by simp [hz]) h1
  have hrow : (w.alloc (.cells z.toArray t')).setRow w.heap.size x.toArray = w.alloc (.cells x.toArray t') := by
    unfold World.setRow World.alloc
    congr 1
    apply Array.ext_getElem?
    intro k
    rw [Array.getElem?_modify]
    by_cases hk : w.heap.size = k
    · subst hk; simp
    · have hk' : k ≠ w.heap.size := fun e => hk e.symm
      simp [hk, hk', Array.getElem?_push]
  simp only [List.take_zero, List.nil_append] at hst
  rw [hrow] at hst
  simp [Instr.storeAt, Instr.sureAddr, storeVar, run_sizeOf hs hp, Value.cells, hst]
end


/-! ### Small facts for the ends of walks -/
theorem ret_bool {a b : Bool} (h : a = b) : Ending.returned (.bool a) = .returned (.bool b) := by rw [h]
theorem ret_int {k : IntKind} {a b : Int} (h : a = b) : Ending.returned (.int k a) = .returned (.int k b) := by rw [h]
theorem nd_t {p : Prop} [Decidable p] (h : (!decide p) = true) : ¬ p := by simpa using h
theorem nd_f {p : Prop} [Decidable p] (h : (!decide p) = false) : p := by simpa using h
theorem drewN2 (w : World) (n m : Nat) : ∃ q, (w.drewN n).drewN m = w.drewN q := ⟨n + m, World.drewN_drewN _ _ _⟩
@[go_sem ↓ high] theorem run_min_nat (P : Program) (w : World) (ts : Array TypeId) (t : TypeId) (k k' : IntKind) (x y : Nat) : (Builtin.min_ ts t #[.int k (x : Int), .int k' (y : Int)]).run P w = .ok (.int k ((min x y : Nat) : Int)) w := by
  rw [run_min_int2]; congr 2; split <;> omega
theorem tmod_neg {v n : Int} (hn : 1 ≤ n) (h : v.tmod n < 0) : v.tmod n + n = v % n := by
  have h1 := Int.tmod_eq_emod (a := v) (b := n)
  have h2 := Int.emod_nonneg v (show n ≠ 0 by omega)
  have h3 := Int.emod_lt_of_pos v (show 0 < n by omega)
  split at h1 <;> omega
theorem tmod_pos {v n : Int} (hn : 1 ≤ n) (h : 0 ≤ v.tmod n) : v.tmod n = v % n := by
  have h1 := Int.tmod_eq_emod (a := v) (b := n)
  have h2 := Int.emod_nonneg v (show n ≠ 0 by omega)
  have h3 := Int.emod_lt_of_pos v (show 0 < n by omega)
  split at h1 <;> omega
theorem tmod_lo {v n : Int} (hn : 1 ≤ n) : -n < v.tmod n ∧ v.tmod n < n := by
  have h1 := Int.tmod_eq_emod (a := v) (b := n)
  have h2 := Int.emod_nonneg v (show n ≠ 0 by omega)
  have h3 := Int.emod_lt_of_pos v (show 0 < n by omega)
  split at h1 <;> omega

theorem flipC {P : Program} {f : FuncId} {args : Array Value} {w : World} {v : Value} (h : Calls P f args w fun e w' => e = .returned v ∧ w = w') : Calls P f args w fun e w' => e = .returned v ∧ w' = w :=
  h.mono fun _ _ ⟨h1, h2⟩ => ⟨h1, h2.symm⟩

/-- A region that draws its order: n operations that leave the world alone, then a tail in one forced order. -/
theorem wp_region_tail {P : Program} {id : Nat} {Q : Exit → Act → World → Prop} {a : Act} {w : World} {l : List Oper} (n : Nat) (hm : P.follows .mixedOrders = true) (hB : Region.lexTailB .any l.toArray n = true)
    (h : wpStill P l.toArray w.drew (fun a' => wpList P l.toArray Q (l.drop n) a' w.drew) (l.take n) a) : (Code.region id l.toArray true).wp P Q a w := wp_region_still_tail n hm hB h

section
variable {α : Type} [Enc α] {w w' : World} {B : Nat} {A : Option Addr} {len : Nat} {xs : List α}
theorem flat_at {xs : List α} {k j : Nat} {x : α} {u : Value} (hx : xs[k]? = some x) (hu : (Enc.enc x)[j]? = some u) : (xs.flatMap Enc.enc)[k * Enc.n α + j]? = some u := by
  have hj : j < Enc.n α := by have := (List.getElem?_eq_some_iff.1 hu).1; rwa [Enc.len] at this
  induction xs generalizing k with
  | nil => simp at hx
  | cons y ys ih =>
    cases k with
    | zero =>
      simp at hx; subst hx
      simp only [List.flatMap_cons, Nat.zero_mul, Nat.zero_add]
      rw [List.getElem?_append_left (by rw [Enc.len]; exact hj)]; exact hu
    | succ k =>
      simp only [List.flatMap_cons, Nat.add_mul, Nat.one_mul]
      rw [List.getElem?_append_right (by rw [Enc.len]; omega), Enc.len]
      have := ih (k := k) (by simpa using hx)
      rw [← this]; congr 1; omega
theorem flat_len (xs : List α) : (xs.flatMap Enc.enc).length = xs.length * Enc.n α := by
  induction xs with
  | nil => simp
  | cons x xs ih => rw [List.flatMap_cons, List.length_append, ih, Enc.len, List.length_cons, Nat.add_mul]; omega
theorem Sl.drew_ (h : Sl α w B A len xs) : Sl α w.drew B A len xs := h
theorem Sl.drewN_ (h : Sl α w B A len xs) (n : Nat) : Sl α (w.drewN n) B A len xs :=
  ⟨h.1, fun hn => by obtain ⟨ad, e, hB, hc⟩ := h.2 hn; exact ⟨ad, e, hB, fun k x hx => (get?_drewN n).trans (hc k x hx)⟩⟩
theorem Sl.of_row {g : Nat} {cs : Array Value} {t : TypeId} {fr : Nat × Nat} (hg : w.heap[g]? = some (.cells cs t fr)) (h : cs.toList.take (len * Enc.n α) = xs.flatMap Enc.enc) (hl : xs.length = len) (hB : g < B) : Sl α w B (some ⟨g, 0, none⟩) len xs := by
  refine ⟨hl, fun _ => ⟨_, rfl, hB, fun k x hx => ?_⟩⟩
  rw [get?_iff]
  intro j u hu
  rw [add_add]
  have hadd : ∀ i, (⟨g, 0, none⟩ : Addr).add i = ⟨g, i, none⟩ := fun i => by unfold Addr.add; split <;> simp_all
  rw [hadd, cell_of_row w g _ cs t fr hg]
  have h2 := flat_at hx hu
  rw [← h, List.getElem?_take] at h2
  split at h2
  · simpa using h2
  · cases h2
theorem Sl.new_ {t : TypeId} {cs : Array Value} {n : Nat} (h : cs.toList = xs.flatMap Enc.enc) (hl : xs.length = len) (hn : n = w.heap.size) (hB : n < B) : Sl α (w.alloc (.cells cs t)) B (some ⟨n, 0, none⟩) len xs := by
  subst hn
  refine Sl.of_row (heap_alloc_new w _) ?_ hl hB
  rw [h, List.take_of_length_le (by rw [flat_len, hl]; exact Nat.le_refl _)]
theorem Sl.alloc_ (h : Sl α w B A len xs) (o : Obj) (hB : B ≤ w.heap.size) : Sl α (w.alloc o) B A len xs := h.below ((Below.refl _ _).alloc hB o)
end

theorem wrap_nat {j : Nat} (h : j ≤ 9223372036854775807) : IntKind.i64.wrap (j : Int) = j := IntWalk.i64_in _ (by omega)

/-! ### Stores of whole values -/
def World.putFrom (w : World) (a : Addr) : Nat → List Value → World
  | _, [] => w
  | i, v :: vs => World.putFrom (w.setCell (a.add i) v) a (i + 1) vs
@[irreducible] def World.putCells (w : World) (a : Addr) (cs : List Value) : World := World.putFrom w a 0 cs
def objFree : Option Obj → Bool
  | some (.cells _ _ fr) => fr == (0, 0)
  | _ => false
def blkFree (w : World) (b : Nat) : Bool := objFree (w.heap[b]?)

section
variable {α : Type} [Enc α] {P : Program} {t : TypeId} {w : World} {a : Addr}
@[go_sem] theorem blkFree_new (cs : Array Value) (n : Nat) (hn : n = w.heap.size) : blkFree (w.alloc (.cells cs t)) n = true := by
  subst hn; unfold blkFree; rw [heap_alloc_new]; rfl
@[go_sem] theorem blkFree_past (o : Obj) (n : Nat) (hn : n < w.heap.size) : blkFree (w.alloc o) n = blkFree w n := by
  unfold blkFree; rw [Below.heap_alloc _ _ _ hn]
@[go_sem, simp] theorem blkFree_drew (n : Nat) : blkFree w.drew n = blkFree w n := rfl
@[go_sem, simp] theorem blkFree_drewN (k n : Nat) : blkFree (w.drewN k) n = blkFree w n := rfl
theorem blkFree_keep {w' : World} {n : Nat} (h : w'.heap[n]? = w.heap[n]?) : blkFree w' n = blkFree w n := by unfold blkFree; rw [h]
theorem frozen_of_free (h : blkFree w a.block = true) : w.frozen? a = false := by
  unfold blkFree at h
  unfold World.frozen?
  cases hb : w.heap[a.block]? with
  | none => rfl
  | some o =>
    rw [hb] at h
    cases o <;> simp [objFree] at h ⊢
    subst h
    simp
theorem blkFree_setCell (p : Addr) (u : Value) (n : Nat) : blkFree (w.setCell p u) n = blkFree w n := by
  unfold blkFree World.setCell
  simp only [Array.getElem?_modify]
  by_cases h : p.block = n
  · simp only [h, if_true]
    cases w.heap[n]? with
    | none => rfl
    | some o => cases o <;> rfl
  · simp only [h, if_false]
theorem cell_isSome_setCell (p q : Addr) (u : Value) (h : (w.cell? q).isSome = true) : ((w.setCell p u).cell? q).isSome = true := by
  obtain ⟨v, hv⟩ := Option.isSome_iff_exists.1 h
  by_cases hpq : p = q
  · subst hpq; rw [World.cell?_setCell_same w p u hv]; rfl
  · rw [World.cell?_setCell_other w p q u hpq, hv]; rfl
theorem run_storeCells_put : ∀ (vs : List Value) (i : Nat) (w : World), (∀ j, j < vs.length → (w.cell? (a.add (i + j))).isSome = true) → blkFree w a.block = true → (∀ u ∈ vs, u.oneCell' = true) →
    (storeCells a vs i).run P w = .ok () (World.putFrom w a i vs)
  | [], i, w, _, _, _ => by simp [storeCells, World.putFrom]
  | v :: vs, i, w, hc, hf, h1 => by
    have h0 := hc 0 (by simp)
    simp only [Nat.add_zero] at h0
    obtain ⟨u, hu⟩ := Option.isSome_iff_exists.1 h0
    have hst := run_store P w (a.add i) v .plain (h1 v (by simp))
    rw [hu] at hst
    have hfr : w.frozen? (a.add i) = false := frozen_of_free (by rw [add_block]; exact hf)
    simp only [hfr, Bool.false_eq_true, if_false] at hst
    simp only [storeCells, Sem.run_bind, hst, Result.andThen_ok, World.putFrom]
    refine run_storeCells_put vs (i + 1) _ (fun j hj => ?_) (by rw [blkFree_setCell]; exact hf) (fun u hu => h1 u (by simp [hu]))
    have := hc (j + 1) (by simp; omega)
    exact cell_isSome_setCell _ _ _ (by rwa [show i + 1 + j = i + (j + 1) by omega])
theorem run_gStore (ha : sizeT P t = Enc.n α) (x : α) (hg : (get? α w a).isSome = true) (hf : blkFree w a.block = true) :
    (gStore t (.pointer (some a)) (.agg (Enc.enc x).toArray)).run P w = .ok () (World.putCells w a (Enc.enc x)) := by
  obtain ⟨y, hy⟩ := Option.isSome_iff_exists.1 hg
  unfold gStore World.putCells
  have hst := run_storeCells_put (P := P) (a := a) (Enc.enc x) 0 w (fun j hj => by
    rw [Enc.len] at hj
    have h2 := get?_iff.1 hy j ((Enc.enc y)[j]'(by rw [Enc.len]; exact hj)) (List.getElem?_eq_getElem _)
    rw [Nat.zero_add, h2]; rfl) hf (Enc.one x)
  simp [Instr.storeAt, Instr.sureAddr, storeVar, run_sizeOf ha Enc.pos, Value.cells, Enc.len, hst]
@[irreducible] def noStore (P : Program) (t : TypeId) (a x : Value) (w : World) : Result Unit := (gStore t a x).run P w
def okU' (b : Bool) (w : World) (r : Result Unit) : Result Unit := if b then .ok () w else r
@[simp, go_sem] theorem okU'_true (w : World) (r : Result Unit) : okU' true w r = .ok () w := rfl
theorem run_gStore_any (ha : sizeT P t = Enc.n α) (val : α → Value) (hv : ∀ x, val x = .agg (Enc.enc x).toArray) (w : World) (a : Addr) (x : α) :
    (gStore t (.pointer (some a)) (val x)).run P w = okU' ((get? α w a).isSome && blkFree w a.block) (World.putCells w a (Enc.enc x)) (noStore P t (.pointer (some a)) (val x) w) := by
  cases h : (get? α w a).isSome && blkFree w a.block with
  | true =>
    simp only [Bool.and_eq_true] at h
    rw [hv, run_gStore ha x h.1 h.2]; rfl
  | false => unfold noStore; rfl
@[go_sem] theorem putCells_drew (cs : List Value) : World.putCells w.drew a cs = (World.putCells w a cs).drew := by
  unfold World.putCells
  have : ∀ (cs : List Value) (i : Nat) (w : World), World.putFrom w.drew a i cs = (World.putFrom w a i cs).drew := by
    intro cs
    induction cs with
    | nil => intro i w; rfl
    | cons v vs ih => intro i w; exact ih _ (w.setCell (a.add i) v)
  exact this cs 0 w
theorem putCells_past (o : Obj) (cs : List Value) (h : a.block < w.heap.size) (hs : a.spot = none) : World.putCells (w.alloc o) a cs = (World.putCells w a cs).alloc o := by
  unfold World.putCells
  have : ∀ (cs : List Value) (i : Nat) (w : World), a.block < w.heap.size → World.putFrom (w.alloc o) a i cs = (World.putFrom w a i cs).alloc o := by
    intro cs
    induction cs with
    | nil => intro i w _; rfl
    | cons v vs ih =>
      intro i w hw
      have e : (w.alloc o).setCell (a.add i) v = (w.setCell (a.add i) v).alloc o := by
        have ha : a.add i = ⟨a.block, a.off + i, none⟩ := by
          unfold Addr.add; split
          · rename_i h0; subst h0; cases a; simp at hs ⊢; exact hs
          · rfl
        rw [ha]; exact World.setCell_alloc_past o a.block (a.off + i) v hw
      simp only [World.putFrom, e]
      exact ih _ _ (by simpa using hw)
  exact this cs 0 w h
@[go_sem] theorem putCells_past' (o : Obj) (n k : Nat) (cs : List Value) (h : n < w.heap.size) : World.putCells (w.alloc o) ⟨n, k, none⟩ cs = (World.putCells w ⟨n, k, none⟩ cs).alloc o := putCells_past o cs h rfl
theorem putCells_top {n : Nat} (x z : α) (hn : n = w.heap.size) : World.putCells (w.alloc (.cells (Enc.enc z).toArray t)) ⟨n, 0, none⟩ (Enc.enc x) = w.alloc (.cells (Enc.enc x).toArray t) := by
  subst hn
  unfold World.putCells
  have key : ∀ (vs pre post : List Value), post.length = vs.length → World.putFrom (w.alloc (.cells (pre ++ post).toArray t)) ⟨w.heap.size, 0, none⟩ pre.length vs = w.alloc (.cells (pre ++ vs).toArray t) := by
    intro vs
    induction vs with
    | nil => intro pre post h; cases post <;> simp_all [World.putFrom]
    | cons v vs ih =>
      intro pre post h
      cases post with
      | nil => simp at h
      | cons p post =>
        have ha : (⟨w.heap.size, 0, none⟩ : Addr).add pre.length = ⟨w.heap.size, pre.length, none⟩ := by unfold Addr.add; split <;> simp_all
        have e : (pre ++ p :: post).toArray.setIfInBounds pre.length v = ((pre ++ [v]) ++ post).toArray := by
          apply Array.ext'
          simp [List.set_append_right]
        have := ih (pre ++ [v]) post (by simpa using h)
        simp only [World.putFrom, ha, World.setCell_alloc_new, e]
        rw [show pre.length + 1 = (pre ++ [v]).length by simp, this]
        simp
  have := key (Enc.enc x) [] (Enc.enc z) (by rw [Enc.len, Enc.len])
  simpa using this
theorem heap_putCells (cs : List Value) (k : Nat) (h : k ≠ a.block) : (World.putCells w a cs).heap[k]? = w.heap[k]? := by
  unfold World.putCells
  have : ∀ (cs : List Value) (i : Nat) (w : World), (World.putFrom w a i cs).heap[k]? = w.heap[k]? := by
    intro cs
    induction cs with
    | nil => intro i w; rfl
    | cons v vs ih => intro i w; exact (ih _ _).trans (Below.heap_setCell _ _ _ _ (by rw [add_block]; exact h))
  exact this cs 0 w
@[go_sem, simp] theorem size_putCells (cs : List Value) : (World.putCells w a cs).heap.size = w.heap.size := by
  unfold World.putCells
  have : ∀ (cs : List Value) (i : Nat) (w : World), (World.putFrom w a i cs).heap.size = w.heap.size := by
    intro cs
    induction cs with
    | nil => intro i w; rfl
    | cons v vs ih => intro i w; exact (ih _ _).trans (by simp)
  exact this cs 0 w
theorem Below_putCells {B : Nat} {v : World} (h : Below B v w) (hB : B ≤ a.block) (cs : List Value) : Below B v (World.putCells w a cs) := by
  unfold World.putCells
  have : ∀ (cs : List Value) (i : Nat) (w : World), Below B v w → Below B v (World.putFrom w a i cs) := by
    intro cs
    induction cs with
    | nil => intro i w h; exact h
    | cons u vs ih => intro i w h; exact ih _ _ (h.setCell (by rw [add_block]; exact hB) u)
  exact this cs 0 w h
theorem cell_putFrom (hs : a.spot = none) : ∀ (cs : List Value) (i : Nat) (w : World) (q : Addr), q.spot = none → (w.cell? q).isSome = true →
    (World.putFrom w a i cs).cell? q = if q.block = a.block ∧ a.off + i ≤ q.off ∧ q.off < a.off + i + cs.length then cs[q.off - (a.off + i)]? else w.cell? q
  | [], i, w, q, hq, h => by simp [World.putFrom]; intro h1 h2 h3; omega
  | v :: vs, i, w, q, hq, h => by
    have ha : a.add i = ⟨a.block, a.off + i, none⟩ := by
      unfold Addr.add; split
      · rename_i h0; subst h0; cases a; simp at hs ⊢; exact hs
      · rfl
    have ih := cell_putFrom hs vs (i + 1) (w.setCell (a.add i) v) q hq (cell_isSome_setCell _ _ _ h)
    simp only [World.putFrom, ih, List.length_cons]
    by_cases hb : q.block = a.block
    · by_cases ho : q.off = a.off + i
      · have e : q = a.add i := by rw [ha]; cases q; simp at hb ho hq ⊢; exact ⟨hb, ho, hq⟩
        obtain ⟨u, hu⟩ := Option.isSome_iff_exists.1 h
        rw [if_neg (by omega), if_pos (by omega), e, World.cell?_setCell_same w _ v (by rw [← e]; exact hu), ha]
        simp
      · have hne : a.add i ≠ q := fun e => ho (by rw [← e, ha])
        by_cases hr : a.off + (i + 1) ≤ q.off ∧ q.off < a.off + (i + 1) + vs.length
        · rw [if_pos ⟨hb, hr⟩, if_pos (by omega)]
          rw [show q.off - (a.off + i) = (q.off - (a.off + (i + 1))) + 1 by omega, List.getElem?_cons_succ]
        · rw [if_neg (by omega), if_neg (by omega), World.cell?_setCell_other w _ _ _ hne]
    · rw [if_neg (by omega), if_neg (by omega), World.cell?_setCell_other w _ _ _ (fun e => hb (by rw [← e, add_block]))]
end

theorem Sl.back {α : Type} [Enc α] {w w' : World} {B : Nat} {A : Option Addr} {len : Nat} {xs : List α} (h : Sl α w' B A len xs) (hb : Below B w w') : Sl α w B A len xs :=
  ⟨h.1, fun hn => by
    obtain ⟨ad, e, hB, hc⟩ := h.2 hn
    exact ⟨ad, e, hB, fun k x hx => (get?_below hb (by rw [add_block]; exact hB)).symm.trans (hc k x hx)⟩⟩

theorem bdN {B : Nat} {a w : World} (h : Below B a w) (n : Nat) : Below B a (w.drewN n) := ⟨h.os, h.tape, h.output, h.size, h.block⟩

end Go.Gv
