/- The struct types of this seat as Lean types, with the runs of single operations over them. Conditions: those named in each theorem. -/
import Derived.WalkKit
import Derived.WalkSpells
import Derived.WalkLawsBesides
import Derived.Lib.Hide
import Derived.Deep.QuietTactic
import Derived.BigQuiet
import Derived.StillTailTactics
import Derived.Carry
import Derived.Maps.RangeRun
import Derived.Maps.AppendAt
import Derived.Deep.AppendLies
import Derived.Test.YtfhhcgldikmejaaGreatDoorProg
import Derived.RowKit
import Derived.KernelRfl
/- Values of Go structs as Lean values: typed readings of memory, and the runs of single operations over them. Conditions: those named in each theorem. -/
namespace Go.Gv
open Go Go.RowKit
set_option linter.unusedSectionVars false
set_option linter.unusedSimpArgs false

/-- The world has the cells cs from a on. -/
def At (w : World) (a : Addr) (cs : List Value) : Prop := ∀ j v, cs[j]? = some v → w.cell? (a.add j) = some v

/-- A type of Lean's whose values are written as a row of cells. -/
class Enc (α : Type) where
  n : Nat
  enc : α → List Value
  pos : 0 < n
  len : ∀ x, (enc x).length = n
  one : ∀ x, ∀ u ∈ enc x, u.oneCell' = true
  inj : ∀ x y, enc x = enc y → x = y

theorem add_add (a : Addr) (i j : Nat) : (a.add i).add j = a.add (i + j) := by
  unfold Addr.add
  by_cases hi : i = 0 <;> by_cases hj : j = 0 <;> simp [hi, hj, Nat.add_assoc]
@[go_sem] theorem add_block (a : Addr) (n : Nat) : (a.add n).block = a.block := by unfold Addr.add; split <;> rfl

theorem At.block_lt {w : World} {a : Addr} {cs : List Value} (h : At w a cs) (hl : 0 < cs.length) : a.block < w.heap.size := by
  have := h 0 cs[0] (List.getElem?_eq_getElem hl)
  have := World.block_lt_of_cell? w _ this
  rwa [add_block] at this

theorem At.keep {w w' : World} {a : Addr} {cs : List Value} (h : At w a cs) (hk : w'.heap[a.block]? = w.heap[a.block]?) : At w' a cs := by
  intro j v hv
  rw [World.cell?_of_block (w := w) (by rw [add_block]; exact hk)]
  exact h j v hv

theorem At.sub {w : World} {a : Addr} {cs ds : List Value} (h : At w a cs) (k : Nat) (hd : ∀ j v, ds[j]? = some v → cs[k + j]? = some v) : At w (a.add k) ds := by
  intro j v hv
  rw [add_add]
  exact h _ _ (hd j v hv)

theorem At.unique {w : World} {a : Addr} {cs ds : List Value} (h : At w a cs) (h' : At w a ds) (hl : cs.length = ds.length) : cs = ds := by
  apply List.ext_getElem?
  intro j
  cases hc : cs[j]? with
  | none =>
    have : cs.length ≤ j := by simpa using hc
    exact (List.getElem?_eq_none (by omega)).symm
  | some v =>
    have hj : j < cs.length := (List.getElem?_eq_some_iff.1 hc).1
    have hd : ds[j]? = some (ds[j]'(by omega)) := List.getElem?_eq_getElem (by omega)
    have e1 := h j v hc
    have e2 := h' j _ hd
    rw [e1] at e2
    rw [hd]; exact e2

open Classical in
/-- The value of the type α at a, if there is one. -/
noncomputable def get? (α : Type) [Enc α] (w : World) (a : Addr) : Option α :=
  if h : ∃ x : α, At w a (Enc.enc x) then some h.choose else none

section
variable {α : Type} [Enc α] {w w' : World} {a : Addr} {x : α}
theorem get?_iff : get? α w a = some x ↔ At w a (Enc.enc x) := by
  unfold get?
  constructor
  · intro h
    split at h
    · rename_i hx; have := hx.choose_spec; injection h with h; rwa [h] at this
    · cases h
  · intro h
    have hx : ∃ x : α, At w a (Enc.enc x) := ⟨x, h⟩
    rw [dif_pos hx]
    have h2 := hx.choose_spec
    have := Enc.inj _ _ (At.unique h2 h (by rw [Enc.len, Enc.len]))
    rw [this]
theorem get?_keep (hk : w'.heap[a.block]? = w.heap[a.block]?) : get? α w' a = get? α w a := by
  have hiff : ∀ x : α, At w' a (Enc.enc x) ↔ At w a (Enc.enc x) := fun x => ⟨fun h => h.keep hk.symm, fun h => h.keep hk⟩
  have : ∀ y : α, get? α w' a = some y ↔ get? α w a = some y := fun y => by rw [get?_iff, get?_iff, hiff]
  cases h : get? α w a with
  | some y => exact (this y).2 h
  | none =>
    cases h' : get? α w' a with
    | none => rfl
    | some y => have := (this y).1 h'; rw [h] at this; cases this
theorem get?_lt (h : get? α w a = some x) : a.block < w.heap.size := (get?_iff.1 h).block_lt (by rw [Enc.len]; exact Enc.pos (α := α))
@[go_sem] theorem get?_alloc_lt (o : Obj) (h : a.block < w.heap.size) : get? α (w.alloc o) a = get? α w a := get?_keep (Below.heap_alloc _ _ _ h)
theorem get?_alloc (o : Obj) (h : get? α w a = some x) : get? α (w.alloc o) a = some x := (get?_alloc_lt o (get?_lt h)).trans h
@[go_sem, simp] theorem get?_drew : get? α w.drew a = get? α w a := get?_keep rfl
theorem get?_below {B : Nat} (hb : Below B w w') (ha : a.block < B) : get? α w' a = get? α w a := get?_keep (hb.block _ ha)
theorem get?_new (t : TypeId) (x : α) : get? α (w.alloc (.cells (Enc.enc x).toArray t)) ⟨w.heap.size, 0, none⟩ = some x := by
  rw [get?_iff]
  intro j v hv
  have : (⟨w.heap.size, 0, none⟩ : Addr).add j = ⟨w.heap.size, j, none⟩ := by unfold Addr.add; split <;> simp_all
  rw [this]
  simp [hv]
end

/-- A slice's value (address, length, capacity) reads as the list xs of values of α, all of it below block B. -/
def Sl (α : Type) [Enc α] (w : World) (B : Nat) (A : Option Addr) (len : Nat) (xs : List α) : Prop :=
  xs.length = len ∧ (0 < len → ∃ ad, A = some ad ∧ ad.block < B ∧ ∀ k x, xs[k]? = some x → get? α w (ad.add (k * Enc.n α)) = some x)

section
variable {α : Type} [Enc α] {w w' : World} {B B' : Nat} {A : Option Addr} {len : Nat} {xs : List α}
theorem Sl.nil : Sl α w B A 0 [] := ⟨rfl, fun h => by omega⟩
theorem Sl.at_ (h : Sl α w B A len xs) {k : Nat} (hk : k < len) : ∃ ad x, A = some ad ∧ ad.block < B ∧ xs[k]? = some x ∧ get? α w (ad.add (k * Enc.n α)) = some x := by
  obtain ⟨ad, rfl, hb, hg⟩ := h.2 (by omega)
  have hl := h.1
  exact ⟨ad, xs[k]'(by omega), rfl, hb, List.getElem?_eq_getElem (by omega), hg k _ (List.getElem?_eq_getElem (by omega))⟩
theorem Sl.below (h : Sl α w B A len xs) (hb : Below B w w') : Sl α w' B A len xs :=
  ⟨h.1, fun hn => by
    obtain ⟨ad, e, hB, hc⟩ := h.2 hn
    exact ⟨ad, e, hB, fun k x hx => (get?_below hb (by rw [add_block]; exact hB)).trans (hc k x hx)⟩⟩
theorem Sl.more (h : Sl α w B A len xs) (hB : B ≤ B') : Sl α w B' A len xs :=
  ⟨h.1, fun hn => by
    obtain ⟨ad, e, hb, hc⟩ := h.2 hn
    exact ⟨ad, e, by omega, hc⟩⟩
theorem Sl.take (h : Sl α w B A len xs) {k : Nat} (hk : k ≤ len) : Sl α w B A k (xs.take k) := by
  refine ⟨by rw [List.length_take, h.1]; omega, fun hn => ?_⟩
  obtain ⟨ad, e, hb, hc⟩ := h.2 (by omega)
  refine ⟨ad, e, hb, fun j x hx => hc j x ?_⟩
  rw [List.getElem?_take] at hx
  split at hx
  · exact hx
  · cases hx
theorem Sl.drop (h : Sl α w B A len xs) {k : Nat} (hk : k < len) : ∃ ad, A = some ad ∧ Sl α w B (some (ad.add (k * Enc.n α))) (len - k) (xs.drop k) := by
  obtain ⟨ad, e, hb, hc⟩ := h.2 (by omega)
  refine ⟨ad, e, by rw [List.length_drop, h.1], fun _ => ⟨_, rfl, by rw [add_block]; exact hb, fun j x hx => ?_⟩⟩
  rw [add_add, ← Nat.add_mul]
  exact hc _ _ (by rw [← hx, List.getElem?_drop])
end


/-! ### Runs of single operations over such values -/
def aggT (P : Program) (t : TypeId) : Bool := match P.underlying t with | some (.struct _) | some (.array _ _) => true | _ => false
def sizeT (P : Program) (t : TypeId) : Nat := match P.info? t with | some i => i.size | none => 0
def zeroT (P : Program) (t : TypeId) : Option Value := (P.info? t).bind (·.zero)

section
variable {P : Program} {t : TypeId}
theorem run_isAgg (h : aggT P t = true) (w : World) : (isAgg t).run P w = .ok true w := by
  unfold aggT at h
  unfold isAgg
  cases hu : P.underlying t with
  | none => simp [hu] at h
  | some d =>
    rw [Sem.run_bind, run_underlying hu w]
    cases d <;> simp_all
theorem run_sizeOf {n : Nat} (h : sizeT P t = n) (hn : 0 < n) (w : World) : (sizeOf t).run P w = .ok n w := by
  unfold sizeT at h
  cases hi : P.info? t with
  | none => simp [hi] at h; omega
  | some i => simp [hi] at h; simp [sizeOf, typeInfo, hi, h]
theorem run_zeroValue {z : Value} (h : zeroT P t = some z) (w : World) : (zeroValue t).run P w = .ok z w := by
  unfold zeroT at h
  cases hi : P.info? t with
  | none => simp [hi] at h
  | some i => simp [hi] at h; simp [zeroValue, typeInfo, hi, h]
variable {α : Type} [Enc α]
theorem run_loadCells_at {w : World} {a : Addr} {cs : List Value} (h : At w a cs) : (loadCells a cs.length).run P w = .ok cs.toArray w := run_loadCells_list w a cs h
theorem run_loadVar_get {w : World} {a : Addr} (ha : aggT P t = true) (hs : sizeT P t = Enc.n α) {x : α} (h : get? α w a = some x) :
    (loadVar t a).run P w = .ok (.agg (Enc.enc x).toArray) w := by
  have hl := run_loadCells_at (P := P) (get?_iff.1 h)
  rw [Enc.len] at hl
  simp [loadVar, Sem.run_bind, run_isAgg ha, run_sizeOf hs Enc.pos, hl]
theorem run_loadAt_get {w : World} {a : Addr} (ha : aggT P t = true) (hs : sizeT P t = Enc.n α) {x : α} (h : get? α w a = some x) :
    (Instr.loadAt t (.pointer (some a))).run P w = .ok (.agg (Enc.enc x).toArray) w := by
  simp [Instr.loadAt, Instr.sureAddr, run_loadVar_get ha hs h]
@[irreducible] def noLoad (P : Program) (t : TypeId) (a : Addr) (w : World) : Result Value := (Instr.loadAt t (.pointer (some a))).run P w
def ofOpt (o : Option Value) (w : World) (r : Result Value) : Result Value := match o with | some v => .ok v w | none => r
@[simp, go_sem] theorem ofOpt_some (v : Value) (w : World) (r : Result Value) : ofOpt (some v) w r = .ok v w := rfl
theorem run_loadAt_opt {w : World} {a : Addr} (ha : aggT P t = true) (hs : sizeT P t = Enc.n α) (val : α → Value) (hv : ∀ x, val x = .agg (Enc.enc x).toArray) :
    (Instr.loadAt t (.pointer (some a))).run P w = ofOpt ((get? α w a).map val) w (noLoad P t a w) := by
  cases h : get? α w a with
  | some x => simp only [run_loadAt_get ha hs h, hv, Option.map_some, ofOpt_some]
  | none => simp only [noLoad, Option.map_none, ofOpt]
/-! The operations at a type of cells, closed to simp. -/
@[irreducible] def gLoad (t : TypeId) (a : Value) : Sem Value := Instr.loadAt t a
@[irreducible] def gStore (t : TypeId) (a x : Value) : Sem Unit := Instr.storeAt t a x
@[irreducible] def gField (t : TypeId) (x : Value) (i : Nat) : Sem Value := Instr.field t x i
@[irreducible] def gBox (t : TypeId) (x : Value) : Sem Value := Instr.box t x
@[irreducible] def gAlloc (t : TypeId) : Sem Value := Instr.alloc t true (.tuple #[])
@[irreducible] def gBuild (t : TypeId) (ps : Array (Nat × Value)) : Sem Value := Instr.build t ps
@[irreducible] def gBuildSlice (t : TypeId) (n : Nat) (ps : Array (Nat × Value)) : Sem Value := Instr.buildSlice t n ps
@[irreducible] def gIndex (t : TypeId) (x i : Value) : Sem Value := Instr.index t x i
@[irreducible] def gBin (op : BinOp) (t : TypeId) (ox oy : Operand) (x y : Value) : Sem Value := do eqGuard op t ox oy x y; binOp op t x y
section
variable (ρ : Operand → Value) (dst : Option Tmp) (x y : Operand) (ty : TypeId) (pos : String) (after : Array Edge) (guard : Option (Nat × Bool)) (t : TypeId)
theorem ex_load : execOp ρ { dst, op := .load t x, type := ty, pos, after, guard } = (do pure (.value (← gLoad t (ρ x)))) := by unfold gLoad; rfl
theorem ex_store : execOp ρ { dst, op := .store t x y, type := ty, pos, after, guard } = (do gStore t (ρ x) (ρ y); pure .skip) := by unfold gStore; rfl
theorem ex_field (i : Nat) : execOp ρ { dst, op := .field t x i, type := ty, pos, after, guard } = (do pure (.value (← gField t (ρ x) i))) := by unfold gField; rfl
theorem ex_box : execOp ρ { dst, op := .box t x, type := ty, pos, after, guard } = (do pure (.value (← gBox t (ρ x)))) := by unfold gBox; rfl
theorem ex_alloc : execOp ρ { dst, op := .alloc t, type := ty, pos, after, guard } = (do pure (.value (← gAlloc t))) := by unfold gAlloc; rfl
theorem ex_build (ps : Array (Nat × Operand)) : execOp ρ { dst, op := .build t ps, type := ty, pos, after, guard } = (do pure (.value (← gBuild t (ps.map fun (i, x) => (i, ρ x))))) := by unfold gBuild; rfl
theorem ex_buildSlice (n : Nat) (ps : Array (Nat × Operand)) : execOp ρ { dst, op := .buildSlice t n ps, type := ty, pos, after, guard } = (do pure (.value (← gBuildSlice t n (ps.map fun (i, x) => (i, ρ x))))) := by unfold gBuildSlice; rfl
theorem ex_eql (yt : TypeId) : execOp ρ { dst, op := .binOp .eql t x y yt, type := ty, pos, after, guard } = (do pure (.value (← gBin .eql t x y (ρ x) (ρ y)))) := by unfold gBin; rfl
theorem ex_neq (yt : TypeId) : execOp ρ { dst, op := .binOp .neq t x y yt, type := ty, pos, after, guard } = (do pure (.value (← gBin .neq t x y (ρ x) (ρ y)))) := by unfold gBin; rfl
end
/-- A part of a struct's or an array's value, itself a struct or an array. -/
theorem run_part_agg {w : World} {cs ds : List Value} {off : Nat} (ha : aggT P t = true) (hs : sizeT P t = ds.length) (hp : 0 < ds.length)
    (h : (cs.drop off).take ds.length = ds) : (part t cs.toArray off).run P w = .ok (.agg ds.toArray) w := by
  simp only [part, Sem.run_bind, run_isAgg ha, Result.andThen_ok, run_sizeOf hs hp, if_true, Sem.run_pure]
  congr 2
  apply Array.ext'
  simp [List.extract_eq_take_drop, h]
theorem run_isAgg_not (h : aggT P t = false) (hu : (P.underlying t).isSome = true) (w : World) : (isAgg t).run P w = .ok false w := by
  unfold aggT at h
  unfold isAgg
  cases hu : P.underlying t with
  | none => simp_all
  | some d =>
    rw [Sem.run_bind, run_underlying hu w]
    cases d <;> simp_all
theorem run_part_one {w : World} {cs : List Value} {off : Nat} {v : Value} (ha : aggT P t = false) (hu : (P.underlying t).isSome = true) (h : cs[off]? = some v) :
    (part t cs.toArray off).run P w = .ok v w := by
  simp only [part, Sem.run_bind, run_isAgg_not ha hu, Result.andThen_ok]
  simp [h]
theorem run_field_of {w : World} {fs : Array Field} {f : Field} {cs : List Value} {i : Nat} {v : Value} (hu : P.underlying t = some (.struct fs)) (hf : fs[i]? = some f)
    (h : (part f.type cs.toArray f.offset).run P w = .ok v w) : (Instr.field t (.agg cs.toArray) i).run P w = .ok v w := by
  simp [Instr.field, run_underlying hu, hf, asAgg, h]
end


/-- The walk over an array's places that '==' makes, as a list. -/
def eqPlaces (d : Nat) (e : TypeId) (n : Nat) (xs ys : Array Value) : List Nat → Sem Bool
  | [] => pure true
  | i :: is => do
    let a ← part e xs (i * n)
    let b ← part e ys (i * n)
    let r ← Op.equalIn d e a b
    if (!r) = true then pure false else eqPlaces d e n xs ys is

section
variable {P : Program} {t e : TypeId} {len n : Nat}
theorem run_equalIn_array (d : Nat) (xs ys : Array Value) (ht : P.underlying t = some (.array len e)) (hs : sizeT P e = n) (hn : 0 < n) (w : World) :
    (Op.equalIn (d + 1) t (.agg xs) (.agg ys)).run P w = (eqPlaces d e n xs ys (List.range' 0 len)).run P w := by
  simp only [Op.equalIn, Sem.run_bind, run_underlying ht, Result.andThen_ok, run_sizeOf hs hn]
  rw [Std.Legacy.Range.forIn_eq_forIn_range']
  simp only [Std.Legacy.Range.size, Nat.sub_zero, Nat.add_sub_cancel, Nat.div_one]
  generalize List.range' 0 len = is
  clear ht
  induction is generalizing w with
  | nil => simp [eqPlaces]
  | cons i is ih =>
    simp only [List.forIn_cons, eqPlaces, Sem.run_bind]
    generalize (part e xs (i * n)).run P w = r1
    cases r1 with
    | ok a w1 =>
      simp only [Result.andThen_ok]
      generalize (part e ys (i * n)).run P w1 = r2
      cases r2 with
      | ok b w2 =>
        simp only [Result.andThen_ok]
        generalize (Op.equalIn d e a b).run P w2 = r3
        cases r3 with
        | ok r w3 =>
          cases r
          · simp
          · simp only [Result.andThen_ok]
            simpa using ih w3
        | halt x w3 => simp [Result.andThen]
      | halt x w2 => simp [Result.andThen]
    | halt x w1 => simp [Result.andThen]
end


/-- A slice's value. -/
structure Hdr where
  a : Option Addr
  len : Nat
  cap : Nat
deriving DecidableEq
instance : Inhabited Hdr := ⟨⟨none, 0, 0⟩⟩
@[go_sem] def Hdr.val (h : Hdr) : Value := .slice h.a h.len h.cap

/-- Elements of one cell. -/
structure I64 where
  v : Int
deriving DecidableEq
structure U64 where
  v : Int
deriving DecidableEq
structure U8 where
  v : UInt8
deriving DecidableEq
structure StrV where
  v : ByteArray
deriving DecidableEq
structure BoolV where
  v : Bool
deriving DecidableEq
@[reducible] def enc1 {α : Type} (f : α → Value) (h1 : ∀ x, (f x).oneCell' = true) (hi : ∀ x y, f x = f y → x = y) : Enc α where
  n := 1
  enc := fun x => [f x]
  pos := by omega
  len := fun _ => rfl
  one := by intro x u hu; simp at hu; subst hu; exact h1 x
  inj := by intro x y h; exact hi x y (by simpa using h)
instance : Enc I64 := enc1 (fun x => .int .i64 x.v) (fun _ => rfl) (by intro x y h; injection h with _ h; cases x; cases y; simp at h; rw [h])
instance : Enc U64 := enc1 (fun x => .int .u64 x.v) (fun _ => rfl) (by intro x y h; injection h with _ h; cases x; cases y; simp at h; rw [h])
def encU8 (b : UInt8) : Value := .int .u8 (b.toNat : Int)
theorem encU8_inj {a b : UInt8} (h : encU8 a = encU8 b) : a = b := by
  unfold encU8 at h
  injection h with _ h
  exact UInt8.toNat_inj.1 (by omega)
instance : Enc U8 := enc1 (fun x => encU8 x.v) (fun _ => rfl) (by intro x y h; have := encU8_inj h; cases x; cases y; simp at this; rw [this])
instance : Enc StrV := enc1 (fun x => .string x.v) (fun _ => rfl) (by intro x y h; injection h with h; cases x; cases y; simp at h; rw [h])
instance : Enc BoolV := enc1 (fun x => .bool x.v) (fun _ => rfl) (by intro x y h; injection h with h; cases x; cases y; simp at h; rw [h])
instance : Enc Hdr := enc1 Hdr.val (fun _ => rfl) (by intro x y h; simp only [Hdr.val] at h; injection h with h1 h2 h3; cases x; cases y; simp_all)
theorem get1 {α : Type} [Enc α] {w : World} {a : Addr} {x : α} {v : Value} (he : Enc.enc x = [v]) (h : get? α w a = some x) : w.cell? a = some v := by
  have := get?_iff.1 h 0 v (by rw [he]; rfl)
  simpa [Addr.add] using this

theorem bytes_beq (a b : ByteArray) : (a.toList == b.toList) = decide (a = b) := by
  rw [Bool.eq_iff_iff, beq_iff_eq, decide_eq_true_eq, ByteArray.toList_eq, ByteArray.toList_eq]
  constructor
  · intro h; apply ByteArray.ext; exact Array.ext' h
  · intro h; rw [h]
/-- 32 bytes. -/
structure GHash where
  l : List UInt8
  h : l.length = 32
deriving DecidableEq
instance : Inhabited GHash := ⟨⟨List.replicate 32 0, by simp⟩⟩
def GHash.enc (x : GHash) : List Value := x.l.map encU8
theorem GHash.enc_len (x : GHash) : x.enc.length = 32 := by simp [GHash.enc, x.h]
instance : Enc GHash where
  n := 32
  enc := GHash.enc
  pos := by omega
  len := GHash.enc_len
  one := by
    intro x u hu
    simp only [GHash.enc, List.mem_map] at hu
    obtain ⟨b, _, rfl⟩ := hu; rfl
  inj := by
    intro x y h
    obtain ⟨l, hl⟩ := x; obtain ⟨m, hm⟩ := y
    simp only [GHash.enc] at h
    congr 1
    exact (List.map_inj_right (fun a b => encU8_inj)).1 h
@[irreducible] def GHash.val (x : GHash) : Value := .agg x.enc.toArray
theorem GHash.val_eq (x : GHash) : GHash.val x = .agg (Enc.enc x).toArray := by unfold GHash.val; rfl

theorem eq_hash {P : Program} {tH t8 : TypeId} (u1 : P.underlying tH = some (.array 32 t8)) (s1 : sizeT P t8 = 1) (a8 : aggT P t8 = false) (u8 : P.underlying t8 = some (.int .u8)) (w : World) (d : Nat) (x y : GHash) :
    (Op.equalIn (d + 2) tH (GHash.val x) (GHash.val y)).run P w = .ok (decide (x = y)) w := by
  unfold GHash.val
  rw [Gv.run_equalIn_array (d + 1) _ _ (len := 32) (e := t8) (n := 1) u1 s1 (by omega)]
  have us : (P.underlying t8).isSome = true := by rw [u8]; rfl
  have key : ∀ (k m : Nat), k + m = 32 → (eqPlaces (d + 1) t8 1 x.enc.toArray y.enc.toArray (List.range' k m)).run P w = .ok (decide (x.l.drop k = y.l.drop k)) w := by
    intro k m
    induction m generalizing k with
    | zero =>
      intro hk
      have e1 : x.l.drop k = [] := List.drop_eq_nil_of_le (by rw [x.h]; omega)
      have e2 : y.l.drop k = [] := List.drop_eq_nil_of_le (by rw [y.h]; omega)
      simp [eqPlaces, e1, e2]
    | succ m ih =>
      intro hk
      have hx : k < x.l.length := by rw [x.h]; omega
      have hy : k < y.l.length := by rw [y.h]; omega
      have p1 := run_part_one (P := P) (t := t8) (w := w) (cs := x.enc) (off := k) (v := encU8 x.l[k]) a8 us (by simp [GHash.enc, hx])
      have p2 := run_part_one (P := P) (t := t8) (w := w) (cs := y.enc) (off := k) (v := encU8 y.l[k]) a8 us (by simp [GHash.enc, hy])
      rw [List.range'_succ, eqPlaces]
      simp only [Nat.mul_one, Sem.run_bind, p1, p2, Result.andThen_ok]
      have p3 : (Op.equalIn (d + 1) t8 (encU8 x.l[k]) (encU8 y.l[k])).run P w = .ok (decide (x.l[k] = y.l[k])) w := by
        unfold encU8
        rw [run_equalIn_int w d t8 .u8 .u8 _ _ u8]
        congr 1
        rw [Bool.eq_iff_iff]; simp only [beq_iff_eq, decide_eq_true_eq, ← UInt8.toNat_inj]; omega
      rw [p3]
      simp only [Result.andThen_ok]
      have e1 := List.drop_eq_getElem_cons hx
      have e2 := List.drop_eq_getElem_cons hy
      rw [e1, e2]
      have ih' := ih (k + 1) (by omega)
      by_cases he : x.l[k] = y.l[k]
      · simp [he, ih', -List.getElem_cons_drop]
      · simp [he, -List.getElem_cons_drop]
  have := key 0 32 rfl
  rw [this]
  congr 1
  rw [Bool.eq_iff_iff]
  obtain ⟨a, ha⟩ := x
  obtain ⟨b, hb⟩ := y
  simp

/-! ### Struct results, from runs of parts -/
section
variable {P : Program} {t : TypeId}
theorem run_zero_alloc {z : Value} (hz : zeroT P t = some z) (w : World) : (gAlloc t).run P w = .ok (.pointer (some ⟨w.heap.size, 0, none⟩)) (w.alloc (.cells z.cells t)) := by
  unfold gAlloc
  simp [Instr.alloc, run_zeroValue hz, newVar, newRow]
theorem run_gBox (x : List Value) (w : World) : (gBox t (.agg x.toArray)).run P w = .ok (.pointer (some ⟨w.heap.size, 0, none⟩)) (w.alloc (.cells x.toArray t)) := by
  unfold gBox
  simp [Instr.box, newVar, newRow, Value.cells]
def fieldTO (P : Program) (t : TypeId) : List (TypeId × Nat) := (P.fieldsOf t).toList.map fun f => (f.type, f.offset)
def noBlank (P : Program) (t : TypeId) : Bool := (P.fieldsOf t).toList.all fun f => f.name != "_"
theorem run_gField {cs : List Value} {i : Nat} {ft : TypeId} {off : Nat} {v : Value} (w : World) (hu : P.underlying t = some (.struct (P.fieldsOf t))) (hf : (fieldTO P t)[i]? = some (ft, off))
    (h : (part ft cs.toArray off).run P w = .ok v w) : (gField t (.agg cs.toArray) i).run P w = .ok v w := by
  unfold gField
  unfold fieldTO at hf
  simp only [List.getElem?_map, Array.getElem?_toList, Option.map_eq_some_iff, Prod.mk.injEq] at hf
  obtain ⟨f, h1, rfl, rfl⟩ := hf
  exact run_field_of hu h1 h
/-- The walk over a struct's fields that '==' makes, by their types and places. -/
def eqFs (d : Nat) (xs ys : Array Value) : List (TypeId × Nat) → Sem Bool
  | [] => pure true
  | f :: fs => do
    let a ← part f.1 xs f.2
    let b ← part f.1 ys f.2
    let r ← Op.equalIn d f.1 a b
    if (!r) = true then pure false else eqFs d xs ys fs
theorem run_equalIn_fields (d : Nat) (xs ys : Array Value) (w : World) (ht : P.underlying t = some (.struct (P.fieldsOf t))) (hp : P.stoodInHeld t = false) (hb : noBlank P t = true) :
    (Op.equalIn (d + 1) t (.agg xs) (.agg ys)).run P w = (eqFs d xs ys (fieldTO P t)).run P w := by
  rw [run_equalIn_struct w d t xs ys ht hp]
  unfold fieldTO
  unfold noBlank at hb
  congr 1
  generalize (P.fieldsOf t).toList = fs at hb
  induction fs with
  | nil => rfl
  | cons f fs ih =>
    simp only [List.all_cons, Bool.and_eq_true, bne_iff_ne] at hb
    simp only [Op.eqFields, List.map_cons, eqFs, ih hb.2, hb.1, ne_eq, not_false_eq_true, if_true]
end


/-! ### Small facts for the ends of walks -/
theorem ret_bool {a b : Bool} (h : a = b) : Ending.returned (.bool a) = .returned (.bool b) := by rw [h]
theorem ret_int {k : IntKind} {a b : Int} (h : a = b) : Ending.returned (.int k a) = .returned (.int k b) := by rw [h]
theorem tmod_neg {v n : Int} (hn : 1 ≤ n) (h : v.tmod n < 0) : v.tmod n + n = v % n := by
  have h1 := Int.tmod_eq_emod (a := v) (b := n)
  have h2 := Int.emod_nonneg v (show n ≠ 0 by omega)
  have h3 := Int.emod_lt_of_pos v (show 0 < n by omega)
  split at h1 <;> omega
theorem tmod_pos {v n : Int} (hn : 1 ≤ n) (h : 0 ≤ v.tmod n) : v.tmod n = v % n := by
  have h1 := Int.tmod_eq_emod (a := v) (b := n)
  have h2 := Int.emod_nonneg v (show n ≠ 0 by omega)
  have h3 := Int.emod_lt_of_pos v (show 0 < n by omega)
  split at h1 <;> omega
theorem tmod_lo {v n : Int} (hn : 1 ≤ n) : -n < v.tmod n ∧ v.tmod n < n := by
  have h1 := Int.tmod_eq_emod (a := v) (b := n)
  have h2 := Int.emod_nonneg v (show n ≠ 0 by omega)
  have h3 := Int.emod_lt_of_pos v (show 0 < n by omega)
  split at h1 <;> omega

theorem flipC {P : Program} {f : FuncId} {args : Array Value} {w : World} {v : Value} (h : Calls P f args w fun e w' => e = .returned v ∧ w = w') : Calls P f args w fun e w' => e = .returned v ∧ w' = w :=
  h.mono fun _ _ ⟨h1, h2⟩ => ⟨h1, h2.symm⟩

section
variable {α : Type} [Enc α] {w w' : World} {B : Nat} {A : Option Addr} {len : Nat} {xs : List α}
theorem flat_at {xs : List α} {k j : Nat} {x : α} {u : Value} (hx : xs[k]? = some x) (hu : (Enc.enc x)[j]? = some u) : (xs.flatMap Enc.enc)[k * Enc.n α + j]? = some u := by
  have hj : j < Enc.n α := by have := (List.getElem?_eq_some_iff.1 hu).1; rwa [Enc.len] at this
  induction xs generalizing k with
  | nil => simp at hx
  | cons y ys ih =>
    cases k with
    | zero =>
      simp at hx; subst hx
      simp only [List.flatMap_cons, Nat.zero_mul, Nat.zero_add]
      rw [List.getElem?_append_left (by rw [Enc.len]; exact hj)]; exact hu
    | succ k =>
      simp only [List.flatMap_cons, Nat.add_mul, Nat.one_mul]
      rw [List.getElem?_append_right (by rw [Enc.len]; omega), Enc.len]
      have := ih (k := k) (by simpa using hx)
      rw [← this]; congr 1; omega
theorem flat_len (xs : List α) : (xs.flatMap Enc.enc).length = xs.length * Enc.n α := by
  induction xs with
  | nil => simp
  | cons x xs ih => rw [List.flatMap_cons, List.length_append, ih, Enc.len, List.length_cons, Nat.add_mul]; omega
theorem Sl.drew_ (h : Sl α w B A len xs) : Sl α w.drew B A len xs := h
theorem Sl.of_row {g : Nat} {cs : Array Value} {t : TypeId} {fr : Nat × Nat} (hg : w.heap[g]? = some (.cells cs t fr)) (h : cs.toList.take (len * Enc.n α) = xs.flatMap Enc.enc) (hl : xs.length = len) (hB : g < B) : Sl α w B (some ⟨g, 0, none⟩) len xs := by
  refine ⟨hl, fun _ => ⟨_, rfl, hB, fun k x hx => ?_⟩⟩
  rw [get?_iff]
  intro j u hu
  rw [add_add]
  have hadd : ∀ i, (⟨g, 0, none⟩ : Addr).add i = ⟨g, i, none⟩ := fun i => by unfold Addr.add; split <;> simp_all
  rw [hadd, cell_of_row w g _ cs t fr hg]
  have h2 := flat_at hx hu
  rw [← h, List.getElem?_take] at h2
  split at h2
  · simpa using h2
  · cases h2
theorem Sl.new_ {t : TypeId} {cs : Array Value} {n : Nat} (h : cs.toList = xs.flatMap Enc.enc) (hl : xs.length = len) (hn : n = w.heap.size) (hB : n < B) : Sl α (w.alloc (.cells cs t)) B (some ⟨n, 0, none⟩) len xs := by
  subst hn
  refine Sl.of_row (heap_alloc_new w _) ?_ hl hB
  rw [h, List.take_of_length_le (by rw [flat_len, hl]; exact Nat.le_refl _)]
end

/-! ### Stores of whole values -/
def World.putFrom (w : World) (a : Addr) : Nat → List Value → World
  | _, [] => w
  | i, v :: vs => World.putFrom (w.setCell (a.add i) v) a (i + 1) vs
@[irreducible] def World.putCells (w : World) (a : Addr) (cs : List Value) : World := World.putFrom w a 0 cs
def objFree : Option Obj → Bool
  | some (.cells _ _ fr) => fr == (0, 0)
  | _ => false
def blkFree (w : World) (b : Nat) : Bool := objFree (w.heap[b]?)

section
variable {α : Type} [Enc α] {P : Program} {t : TypeId} {w : World} {a : Addr}
@[go_sem] theorem blkFree_new (cs : Array Value) (n : Nat) (hn : n = w.heap.size) : blkFree (w.alloc (.cells cs t)) n = true := by
  subst hn; unfold blkFree; rw [heap_alloc_new]; rfl
@[go_sem] theorem blkFree_past (o : Obj) (n : Nat) (hn : n < w.heap.size) : blkFree (w.alloc o) n = blkFree w n := by
  unfold blkFree; rw [Below.heap_alloc _ _ _ hn]
@[go_sem, simp] theorem blkFree_drew (n : Nat) : blkFree w.drew n = blkFree w n := rfl
@[go_sem, simp] theorem blkFree_drewN (k n : Nat) : blkFree (w.drewN k) n = blkFree w n := rfl
theorem blkFree_keep {w' : World} {n : Nat} (h : w'.heap[n]? = w.heap[n]?) : blkFree w' n = blkFree w n := by unfold blkFree; rw [h]
theorem frozen_of_free (h : blkFree w a.block = true) : w.frozen? a = false := by
  unfold blkFree at h
  unfold World.frozen?
  cases hb : w.heap[a.block]? with
  | none => rfl
  | some o =>
    rw [hb] at h
    cases o <;> simp [objFree] at h ⊢
    subst h
    simp
theorem blkFree_setCell (p : Addr) (u : Value) (n : Nat) : blkFree (w.setCell p u) n = blkFree w n := by
  unfold blkFree World.setCell
  simp only [Array.getElem?_modify]
  by_cases h : p.block = n
  · simp only [h, if_true]
    cases w.heap[n]? with
    | none => rfl
    | some o => cases o <;> rfl
  · simp only [h, if_false]
theorem cell_isSome_setCell (p q : Addr) (u : Value) (h : (w.cell? q).isSome = true) : ((w.setCell p u).cell? q).isSome = true := by
  obtain ⟨v, hv⟩ := Option.isSome_iff_exists.1 h
  by_cases hpq : p = q
  · subst hpq; rw [World.cell?_setCell_same w p u hv]; rfl
  · rw [World.cell?_setCell_other w p q u hpq, hv]; rfl
theorem run_storeCells_put : ∀ (vs : List Value) (i : Nat) (w : World), (∀ j, j < vs.length → (w.cell? (a.add (i + j))).isSome = true) → blkFree w a.block = true → (∀ u ∈ vs, u.oneCell' = true) →
    (storeCells a vs i).run P w = .ok () (World.putFrom w a i vs)
  | [], i, w, _, _, _ => by simp [storeCells, World.putFrom]
  | v :: vs, i, w, hc, hf, h1 => by
    have h0 := hc 0 (by simp)
    simp only [Nat.add_zero] at h0
    obtain ⟨u, hu⟩ := Option.isSome_iff_exists.1 h0
    have hst := run_store P w (a.add i) v .plain (h1 v (by simp))
    rw [hu] at hst
    have hfr : w.frozen? (a.add i) = false := frozen_of_free (by rw [add_block]; exact hf)
    simp only [hfr, Bool.false_eq_true, if_false] at hst
    simp only [storeCells, Sem.run_bind, hst, Result.andThen_ok, World.putFrom]
    refine run_storeCells_put vs (i + 1) _ (fun j hj => ?_) (by rw [blkFree_setCell]; exact hf) (fun u hu => h1 u (by simp [hu]))
    have := hc (j + 1) (by simp; omega)
    exact cell_isSome_setCell _ _ _ (by rwa [show i + 1 + j = i + (j + 1) by omega])
theorem run_gStore (ha : sizeT P t = Enc.n α) (x : α) (hg : (get? α w a).isSome = true) (hf : blkFree w a.block = true) :
    (gStore t (.pointer (some a)) (.agg (Enc.enc x).toArray)).run P w = .ok () (World.putCells w a (Enc.enc x)) := by
  obtain ⟨y, hy⟩ := Option.isSome_iff_exists.1 hg
  unfold gStore World.putCells
  have hst := run_storeCells_put (P := P) (a := a) (Enc.enc x) 0 w (fun j hj => by
    rw [Enc.len] at hj
    have h2 := get?_iff.1 hy j ((Enc.enc y)[j]'(by rw [Enc.len]; exact hj)) (List.getElem?_eq_getElem _)
    rw [Nat.zero_add, h2]; rfl) hf (Enc.one x)
  simp [Instr.storeAt, Instr.sureAddr, storeVar, run_sizeOf ha Enc.pos, Value.cells, Enc.len, hst]
@[irreducible] def noStore (P : Program) (t : TypeId) (a x : Value) (w : World) : Result Unit := (gStore t a x).run P w
def okU' (b : Bool) (w : World) (r : Result Unit) : Result Unit := if b then .ok () w else r
@[simp, go_sem] theorem okU'_true (w : World) (r : Result Unit) : okU' true w r = .ok () w := rfl
theorem run_gStore_any (ha : sizeT P t = Enc.n α) (val : α → Value) (hv : ∀ x, val x = .agg (Enc.enc x).toArray) (w : World) (a : Addr) (x : α) :
    (gStore t (.pointer (some a)) (val x)).run P w = okU' ((get? α w a).isSome && blkFree w a.block) (World.putCells w a (Enc.enc x)) (noStore P t (.pointer (some a)) (val x) w) := by
  cases h : (get? α w a).isSome && blkFree w a.block with
  | true =>
    simp only [Bool.and_eq_true] at h
    rw [hv, run_gStore ha x h.1 h.2]; rfl
  | false => unfold noStore; rfl
@[go_sem] theorem putCells_drew (cs : List Value) : World.putCells w.drew a cs = (World.putCells w a cs).drew := by
  unfold World.putCells
  have : ∀ (cs : List Value) (i : Nat) (w : World), World.putFrom w.drew a i cs = (World.putFrom w a i cs).drew := by
    intro cs
    induction cs with
    | nil => intro i w; rfl
    | cons v vs ih => intro i w; exact ih _ (w.setCell (a.add i) v)
  exact this cs 0 w
theorem putCells_top {n : Nat} (x z : α) (hn : n = w.heap.size) : World.putCells (w.alloc (.cells (Enc.enc z).toArray t)) ⟨n, 0, none⟩ (Enc.enc x) = w.alloc (.cells (Enc.enc x).toArray t) := by
  subst hn
  unfold World.putCells
  have key : ∀ (vs pre post : List Value), post.length = vs.length → World.putFrom (w.alloc (.cells (pre ++ post).toArray t)) ⟨w.heap.size, 0, none⟩ pre.length vs = w.alloc (.cells (pre ++ vs).toArray t) := by
    intro vs
    induction vs with
    | nil => intro pre post h; cases post <;> simp_all [World.putFrom]
    | cons v vs ih =>
      intro pre post h
      cases post with
      | nil => simp at h
      | cons p post =>
        have ha : (⟨w.heap.size, 0, none⟩ : Addr).add pre.length = ⟨w.heap.size, pre.length, none⟩ := by unfold Addr.add; split <;> simp_all
        have e : (pre ++ p :: post).toArray.setIfInBounds pre.length v = ((pre ++ [v]) ++ post).toArray := by
          apply Array.ext'
          simp [List.set_append_right]
        have := ih (pre ++ [v]) post (by simpa using h)
        simp only [World.putFrom, ha, World.setCell_alloc_new, e]
        rw [show pre.length + 1 = (pre ++ [v]).length by simp, this]
        simp
  have := key (Enc.enc x) [] (Enc.enc z) (by rw [Enc.len, Enc.len])
  simpa using this
theorem cell_putFrom (hs : a.spot = none) : ∀ (cs : List Value) (i : Nat) (w : World) (q : Addr), q.spot = none → (w.cell? q).isSome = true →
    (World.putFrom w a i cs).cell? q = if q.block = a.block ∧ a.off + i ≤ q.off ∧ q.off < a.off + i + cs.length then cs[q.off - (a.off + i)]? else w.cell? q
  | [], i, w, q, hq, h => by simp [World.putFrom]; intro h1 h2 h3; omega
  | v :: vs, i, w, q, hq, h => by
    have ha : a.add i = ⟨a.block, a.off + i, none⟩ := by
      unfold Addr.add; split
      · rename_i h0; subst h0; cases a; simp at hs ⊢; exact hs
      · rfl
    have ih := cell_putFrom hs vs (i + 1) (w.setCell (a.add i) v) q hq (cell_isSome_setCell _ _ _ h)
    simp only [World.putFrom, ih, List.length_cons]
    by_cases hb : q.block = a.block
    · by_cases ho : q.off = a.off + i
      · have e : q = a.add i := by rw [ha]; cases q; simp at hb ho hq ⊢; exact ⟨hb, ho, hq⟩
        obtain ⟨u, hu⟩ := Option.isSome_iff_exists.1 h
        rw [if_neg (by omega), if_pos (by omega), e, World.cell?_setCell_same w _ v (by rw [← e]; exact hu), ha]
        simp
      · have hne : a.add i ≠ q := fun e => ho (by rw [← e, ha])
        by_cases hr : a.off + (i + 1) ≤ q.off ∧ q.off < a.off + (i + 1) + vs.length
        · rw [if_pos ⟨hb, hr⟩, if_pos (by omega)]
          rw [show q.off - (a.off + i) = (q.off - (a.off + (i + 1))) + 1 by omega, List.getElem?_cons_succ]
        · rw [if_neg (by omega), if_neg (by omega), World.cell?_setCell_other w _ _ _ hne]
    · rw [if_neg (by omega), if_neg (by omega), World.cell?_setCell_other w _ _ _ (fun e => hb (by rw [← e, add_block]))]
end

theorem bdN {B : Nat} {a w : World} (h : Below B a w) (n : Nat) : Below B a (w.drewN n) := ⟨h.os, h.tape, h.output, h.size, h.block⟩

end Go.Gv
/- Maps read as lists: lookup, update, length. Conditions: those named in each theorem. -/
namespace Go.Gv
open Go Go.RowKit
set_option linter.unusedSectionVars false
set_option linter.unusedSimpArgs false

/-! ### Maps as lists of keys and values, in the order of their coming -/
class KEnc (K : Type) where
  kv : K → Value
  kinj : ∀ a b, kv a = kv b → a = b
class VEnc (V : Type) where
  vv : V → Value
  vinj : ∀ a b, vv a = vv b → a = b
instance : KEnc Int := ⟨fun k => .int .i64 k, fun a b h => by injection h⟩
instance : KEnc ByteArray := ⟨fun k => .string k, fun a b h => by injection h⟩
instance : VEnc Int := ⟨fun k => .int .i64 k, fun a b h => by injection h⟩
instance : VEnc Bool := ⟨fun k => .bool k, fun a b h => by injection h⟩
instance : VEnc Hdr := ⟨fun k => k.val, fun a b h => by cases a; cases b; simp only [Hdr.val] at h; injection h with h1 h2 h3; simp_all⟩

section
variable {K V : Type} [DecidableEq K]
def mget (m : List (K × V)) (k : K) : Option V := (m.find? fun p => decide (p.1 = k)).map (·.2)
def mset (m : List (K × V)) (k : K) (v : V) : List (K × V) := if k ∈ m.map (·.1) then m.map fun p => if p.1 = k then (k, v) else p else m ++ [(k, v)]
def mdel (m : List (K × V)) (k : K) : List (K × V) := m.filter fun p => !decide (p.1 = k)

theorem mget_nil (k : K) : mget ([] : List (K × V)) k = none := rfl
theorem mget_cons (p : K × V) (m : List (K × V)) (k : K) : mget (p :: m) k = if p.1 = k then some p.2 else mget m k := by
  unfold mget
  by_cases h : p.1 = k <;> simp [List.find?_cons, h]
theorem mget_append (m n : List (K × V)) (k : K) : mget (m ++ n) k = (mget m k).or (mget n k) := by
  induction m with
  | nil => simp [mget_nil]
  | cons p m ih => simp only [List.cons_append, mget_cons]; split <;> simp_all
theorem mget_none {m : List (K × V)} {k : K} : mget m k = none ↔ k ∉ m.map (·.1) := by
  induction m with
  | nil => simp [mget_nil]
  | cons p m ih =>
    simp only [mget_cons, List.map_cons, List.mem_cons, not_or]
    by_cases h : p.1 = k
    · simp [h]
    · simp only [h, if_false, ih]
      exact ⟨fun h2 => ⟨fun e => h e.symm, h2⟩, fun h2 => h2.2⟩
theorem mget_mset_same (m : List (K × V)) (k : K) (v : V) : mget (mset m k v) k = some v := by
  unfold mset
  split
  · rename_i h
    induction m with
    | nil => simp at h
    | cons p m ih =>
      simp only [List.map_cons, mget_cons]
      by_cases hp : p.1 = k
      · simp [hp]
      · simp only [hp, if_false]
        exact ih (by simp only [List.map_cons, List.mem_cons] at h; rcases h with h | h; exact absurd h.symm hp; exact h)
  · rename_i h
    rw [mget_append, mget_none.2 h, mget_cons]; simp
theorem mset_keys (m : List (K × V)) (k : K) (v : V) : (mset m k v).map (·.1) = if k ∈ m.map (·.1) then m.map (·.1) else m.map (·.1) ++ [k] := by
  unfold mset
  split
  · rw [List.map_map]
    apply List.map_congr_left
    intro p _
    simp only [Function.comp]
    split
    · rename_i h; exact h.symm
    · rfl
  · simp
theorem mset_nodup {m : List (K × V)} (h : (m.map (·.1)).Nodup) (k : K) (v : V) : ((mset m k v).map (·.1)).Nodup := by
  rw [mset_keys]
  split
  · exact h
  · rename_i hk
    rw [List.nodup_append]
    exact ⟨h, by simp, by intro a ha b hb; simp at hb; subst hb; intro e; exact hk (e ▸ ha)⟩
end

section
variable {K V : Type} [DecidableEq K] [KEnc K] [VEnc V]
/-- Block r is a map that holds m. -/
def MapIs (w : World) (r : Nat) (m : List (K × V)) : Prop :=
  ∃ es clock, w.heap[r]? = some (.map es clock) ∧ es.toList.map (fun e => (e.key, e.val)) = m.map (fun p => (KEnc.kv p.1, VEnc.vv p.2)) ∧ (m.map (·.1)).Nodup ∧
    es.toList.Pairwise (fun a b => a.born < b.born) ∧ ∀ e ∈ es.toList, e.born < clock

theorem MapIs.unique {w : World} {r : Nat} {m m' : List (K × V)} (h : MapIs w r m) (h' : MapIs w r m') : m = m' := by
  obtain ⟨es, c, hb, he, _⟩ := h
  obtain ⟨es', c', hb', he', _⟩ := h'
  rw [hb] at hb'
  injection hb' with hb'; injection hb' with e1 e2
  subst e1
  rw [he] at he'
  exact (List.map_inj_right (fun a b hab => by
    simp only [Prod.mk.injEq] at hab
    exact Prod.ext (KEnc.kinj _ _ hab.1) (VEnc.vinj _ _ hab.2))).1 he'
open Classical in
noncomputable def mapAt (K V : Type) [KEnc K] [VEnc V] (w : World) (r : Nat) : Option (List (K × V)) :=
  if h : ∃ m : List (K × V), MapIs w r m then some h.choose else none
theorem mapAt_iff {w : World} {r : Nat} {m : List (K × V)} : mapAt K V w r = some m ↔ MapIs w r m := by
  unfold mapAt
  constructor
  · intro h
    split at h
    · rename_i hx; have := hx.choose_spec; injection h with h; rwa [h] at this
    · cases h
  · intro h
    have hx : ∃ m : List (K × V), MapIs w r m := ⟨m, h⟩
    rw [dif_pos hx, MapIs.unique hx.choose_spec h]
theorem MapIs.keep {w w' : World} {r : Nat} {m : List (K × V)} (h : MapIs w r m) (hk : w'.heap[r]? = w.heap[r]?) : MapIs w' r m := by
  obtain ⟨es, c, hb, rest⟩ := h
  exact ⟨es, c, hk.trans hb, rest⟩
theorem MapIs.lt {w : World} {r : Nat} {m : List (K × V)} (h : MapIs w r m) : r < w.heap.size := by
  obtain ⟨es, c, hb, _⟩ := h
  exact (Array.getElem?_eq_some_iff.1 hb).1
theorem mapAt_keep {w w' : World} {r : Nat} (hk : w'.heap[r]? = w.heap[r]?) : mapAt K V w' r = mapAt K V w r := by
  have hiff : ∀ m : List (K × V), MapIs w' r m ↔ MapIs w r m := fun m => ⟨fun h => h.keep hk.symm, fun h => h.keep hk⟩
  have : ∀ y, mapAt K V w' r = some y ↔ mapAt K V w r = some y := fun y => by rw [mapAt_iff, mapAt_iff, hiff]
  cases h : mapAt K V w r with
  | some y => exact (this y).2 h
  | none =>
    cases h' : mapAt K V w' r with
    | none => rfl
    | some y => have := (this y).1 h'; rw [h] at this; cases this
theorem mapAt_lt {w : World} {r : Nat} {m : List (K × V)} (h : mapAt K V w r = some m) : r < w.heap.size := (mapAt_iff.1 h).lt
theorem mapAt_alloc {w : World} {r : Nat} {m : List (K × V)} (o : Obj) (h : mapAt K V w r = some m) : mapAt K V (w.alloc o) r = some m := (mapAt_keep (Below.heap_alloc _ _ _ (mapAt_lt h))).trans h
@[go_sem, simp] theorem mapAt_drew {w : World} {r : Nat} : mapAt K V w.drew r = mapAt K V w r := mapAt_keep rfl
theorem mapAt_below {w w' : World} {B r : Nat} (hb : Below B w w') (hr : r < B) : mapAt K V w' r = mapAt K V w r := mapAt_keep (hb.block _ hr)
theorem mapAt_new (K V : Type) [DecidableEq K] [KEnc K] [VEnc V] (w : World) : mapAt K V (w.alloc (.map #[] 0)) w.heap.size = some [] := by
  rw [mapAt_iff]
  exact ⟨#[], 0, heap_alloc_new w _, rfl, by simp, by simp, by simp⟩
/-- What the operations on maps need to know of a type of keys. -/
structure KeyLaws (P : Program) (tK : TypeId) (K : Type) [DecidableEq K] [KEnc K] : Prop where
  chk : ∀ (e : Bool) (k : K) (w : World), (Instr.checkKey e 10000 tK (KEnc.kv k)).run P w = .ok () w
  fnd : ∀ (k : K) (es : List MapEntry) (ks : List K) (w : World), es.map (·.key) = ks.map KEnc.kv →
    (Instr.findKey tK (KEnc.kv k) es).run P w = .ok ((ks.findIdx? fun x => decide (x = k)).bind fun i => (es[i]?).map fun e => (i, e.val)) w
  same : ∀ k : K, Instr.sameBits 10000 (KEnc.kv k) (KEnc.kv k) = true

theorem findIdx_none {ks : List K} {k : K} (h : k ∉ ks) : (ks.findIdx? fun x => decide (x = k)) = none := by
  rw [List.findIdx?_eq_none_iff]
  intro x hx
  simp only [decide_eq_false_iff_not]
  intro e; exact h (e ▸ hx)

variable {P : Program} {tK tM tV : TypeId}
theorem run_findAsking (he : ∀ (k k' : K) (w : World), (Op.equal tK (KEnc.kv k) (KEnc.kv k')).run P w = .ok (decide (k = k')) w) (k : K) (w : World) : ∀ (es : List MapEntry) (ks : List K) (i : Nat), es.map (·.key) = ks.map KEnc.kv →
    (Instr.findAsking tK (KEnc.kv k) es i).run P w = .ok ((ks.findIdx? fun x => decide (x = k)).bind fun j => (es[j]?).map fun e => (i + j, e.val)) w
  | [], [], i, _ => by simp [Instr.findAsking]
  | [], _ :: _, i, h => by simp at h
  | _ :: _, [], i, h => by simp at h
  | e :: es, x :: ks, i, h => by
    simp only [List.map_cons, List.cons.injEq] at h
    have ih := run_findAsking he k w es ks (i + 1) h.2
    simp only [Instr.findAsking, Sem.run_bind, h.1, he, Result.andThen_ok]
    by_cases hx : k = x
    · subst hx; simp [List.findIdx?_cons]
    · have hx' : ¬ x = k := fun e => hx e.symm
      simp only [hx, decide_false, Bool.false_eq_true, if_false, ih, List.findIdx?_cons, hx']
      cases hf : ks.findIdx? fun x => decide (x = k) with
      | none => rfl
      | some j => simp [Nat.add_assoc, Nat.add_comm 1 j]
theorem fnd_struct (he : ∀ (k k' : K) (w : World), (Op.equal tK (KEnc.kv k) (KEnc.kv k')).run P w = .ok (decide (k = k')) w) {d : TypeDesc} (hu : P.underlying tK = some d)
    (hn : ∀ k k' : K, Instr.sameNow d (KEnc.kv k) (KEnc.kv k') = none) (k : K) (es : List MapEntry) (ks : List K) (w : World) (h : es.map (·.key) = ks.map KEnc.kv) :
    (Instr.findKey tK (KEnc.kv k) es).run P w = .ok ((ks.findIdx? fun x => decide (x = k)).bind fun i => (es[i]?).map fun e => (i, e.val)) w := by
  simp only [Instr.findKey, Sem.run_bind, run_underlying hu, Result.andThen_ok]
  cases es with
  | nil =>
    cases ks with
    | nil => simp [Instr.findNow]
    | cons x ks => simp at h
  | cons e es =>
    cases ks with
    | nil => simp at h
    | cons x ks =>
      have h1 : e.key = KEnc.kv x := by simp only [List.map_cons, List.cons.injEq] at h; exact h.1
      simp only [Instr.findNow, h1, hn]
      have := run_findAsking he k w (e :: es) (x :: ks) 0 h
      rw [this]
      simp
theorem fnd_now {d : TypeDesc} (hu : P.underlying tK = some d) (hn : ∀ k k' : K, Instr.sameNow d (KEnc.kv k) (KEnc.kv k') = some (decide (k' = k))) (k : K) (es : List MapEntry) (ks : List K) (w : World) (h : es.map (·.key) = ks.map KEnc.kv) :
    (Instr.findKey tK (KEnc.kv k) es).run P w = .ok ((ks.findIdx? fun x => decide (x = k)).bind fun i => (es[i]?).map fun e => (i, e.val)) w := by
  have key : ∀ (es : List MapEntry) (ks : List K) (i : Nat), es.map (·.key) = ks.map KEnc.kv → Instr.findNow d (KEnc.kv k) es i = some ((ks.findIdx? fun x => decide (x = k)).bind fun j => (es[j]?).map fun e => (i + j, e.val)) := by
    intro es
    induction es with
    | nil => intro ks i h; cases ks <;> simp_all [Instr.findNow]
    | cons e es ih =>
      intro ks i h
      cases ks with
      | nil => simp at h
      | cons x ks =>
        simp only [List.map_cons, List.cons.injEq] at h
        simp only [Instr.findNow, h.1, hn]
        by_cases hx : x = k
        · subst hx; simp [List.findIdx?_cons]
        · simp only [hx, decide_false, ih ks (i + 1) h.2, List.findIdx?_cons, Bool.false_eq_true, if_false]
          cases hf : ks.findIdx? fun x => decide (x = k) with
          | none => rfl
          | some j => simp [Nat.add_assoc, Nat.add_comm 1 j]
  simp only [Instr.findKey, Sem.run_bind, run_underlying hu, Result.andThen_ok, key es ks 0 h]
  simp

theorem find_in {m : List (K × V)} (k : K) : (((m.map (·.1)).findIdx? fun x => decide (x = k)).bind fun i => m[i]?) = m.find? fun p => decide (p.1 = k) := by
  induction m with
  | nil => rfl
  | cons p m ih =>
    simp only [List.map_cons, List.findIdx?_cons, List.find?_cons]
    by_cases h : p.1 = k
    · simp [h]
    · simp only [h, decide_false, Bool.false_eq_true, if_false]
      rw [← ih]
      cases (List.map (fun x => x.1) m).findIdx? fun x => decide (x = k) <;> simp

/-- 'm[k]' and 'v, ok := m[k]'. -/
theorem run_lookup_map (L : KeyLaws P tK K) (hM : P.underlying tM = some (.map tK tV)) {z : Value} (hz : zeroT P tV = some z) {w : World} {r : Nat} {m : List (K × V)} (h : mapAt K V w r = some m) (k : K) (ok : Bool) :
    (Instr.lookup tM (.map (some r)) (KEnc.kv k) ok).run P w = .ok (if ok then .tuple #[((mget m k).map VEnc.vv).getD z, .bool (mget m k).isSome] else ((mget m k).map VEnc.vv).getD z) w := by
  obtain ⟨es, c, hb, he, hn, _⟩ := mapAt_iff.1 h
  have hk : es.toList.map (·.key) = (m.map (·.1)).map KEnc.kv := by
    have := congrArg (List.map Prod.fst) he
    simpa [List.map_map, Function.comp_def] using this
  have hl : es.toList.length = m.length := by have := congrArg List.length he; simpa using this
  have hf := L.fnd k es.toList (m.map (·.1)) w hk
  have hval : (((m.map (·.1)).findIdx? fun x => decide (x = k)).bind fun i => (es.toList[i]?).map fun e => (i, e.val)).map (·.2) = (mget m k).map VEnc.vv := by
    unfold mget
    rw [← find_in]
    cases hi : (m.map (·.1)).findIdx? fun x => decide (x = k) with
    | none => rfl
    | some i =>
      simp only [Option.bind_some]
      have hlt : i < m.length := by have := List.findIdx?_eq_some_iff_getElem.1 hi; simpa using this.1
      have h1 := congrArg (fun l => l[i]?) he
      simp only [List.getElem?_map] at h1
      rw [List.getElem?_eq_getElem hlt] at h1 ⊢
      rw [List.getElem?_eq_getElem (by omega)] at h1 ⊢
      simp only [Option.map_some, Option.some.injEq, Prod.mk.injEq] at h1 ⊢
      exact h1.2
  have hg : (getObj r).run P w = .ok (.map es c) w := by simp [getObj, Sem.run, hb]
  simp only [Instr.lookup, Sem.run_bind, run_underlying hM, Result.andThen_ok, hg, Sem.run_pure, L.chk, hf]
  cases hi : ((m.map (·.1)).findIdx? fun x => decide (x = k)).bind fun i => (es.toList[i]?).map fun e => (i, e.val) with
  | none =>
    rw [hi] at hval
    simp only [Option.map_none] at hval
    have : mget m k = none := by cases hq : mget m k with
      | none => rfl
      | some v => rw [hq] at hval; cases hval
    simp only [Sem.run_bind, run_zeroValue hz, Result.andThen_ok, Sem.run_pure, this]
    cases ok <;> rfl
  | some p =>
    rw [hi] at hval
    simp only [Option.map_some] at hval
    have : ∃ v, mget m k = some v ∧ VEnc.vv v = p.2 := by cases hq : mget m k with
      | none => rw [hq] at hval; cases hval
      | some v => rw [hq] at hval; simp at hval; exact ⟨v, rfl, hval.symm⟩
    obtain ⟨v, h1, h2⟩ := this
    simp only [Sem.run_pure, Result.andThen_ok, h1]
    cases ok <;> simp [h2]
/-- The world behind 'm[k] = v'. -/
noncomputable def mput (P : Program) (tM : TypeId) (w : World) (r : Nat) (k : K) (v : V) : World :=
  match (Instr.mapUpdate tM (.map (some r)) (KEnc.kv k) (VEnc.vv v)).run P w with
  | .ok _ w' => w'
  | .halt _ w' => w'
theorem run_mapUpdate_ex (L : KeyLaws P tK K) (hM : P.underlying tM = some (.map tK tV)) {w : World} {r : Nat} {m : List (K × V)} (h : mapAt K V w r = some m) (k : K) (v : V) :
    ∃ es c, (Instr.mapUpdate tM (.map (some r)) (KEnc.kv k) (VEnc.vv v)).run P w = .ok () { w with heap := w.heap.setIfInBounds r (.map es c) } ∧ MapIs { w with heap := w.heap.setIfInBounds r (.map es c) } r (mset m k v) := by
  obtain ⟨es, c, hb, he, hn, hp, hc⟩ := mapAt_iff.1 h
  have hlt : r < w.heap.size := (Array.getElem?_eq_some_iff.1 hb).1
  have hk : es.toList.map (·.key) = (m.map (·.1)).map KEnc.kv := by
    have := congrArg (List.map Prod.fst) he
    simpa [List.map_map, Function.comp_def] using this
  have hl : es.toList.length = m.length := by have := congrArg List.length he; simpa using this
  have hf := L.fnd k es.toList (m.map (·.1)) w hk
  have hg : (getObj r).run P w = .ok (.map es c) w := by simp [getObj, Sem.run, hb]
  have hs : ∀ o, (setObj r o).run P w = .ok () { w with heap := w.heap.setIfInBounds r o } := fun o => by simp [setObj, Sem.run, hb]
  by_cases hmem : k ∈ m.map (·.1)
  · cases hi : (m.map (·.1)).findIdx? fun x => decide (x = k) with
    | none =>
      rw [List.findIdx?_eq_none_iff] at hi
      have := hi k hmem
      simp at this
    | some i =>
      obtain ⟨hil, hik, _⟩ := List.findIdx?_eq_some_iff_getElem.1 hi
      have hlt' : i < m.length := by simpa using hil
      have hle : i < es.toList.length := by omega
      have hik' : m[i].1 = k := by simpa using hik
      have hkey : es.toList[i].key = KEnc.kv k := by
        have h1 := congrArg (fun l => l[i]?) hk
        simp only [List.getElem?_map] at h1
        rw [List.getElem?_eq_getElem hle, List.getElem?_eq_getElem hlt'] at h1
        simpa [hik'] using h1
      refine ⟨es.modify i fun e => { e with key := KEnc.kv k, val := VEnc.vv v }, c, ?_, ?_⟩
      · have hkey2 : ((es[i]?).map (·.key)).getD (KEnc.kv k) = KEnc.kv k := by
          rw [← Array.getElem?_toList, List.getElem?_eq_getElem hle]; simpa using hkey
        simp only [Instr.mapUpdate, Sem.run_bind, run_underlying hM, Result.andThen_ok, hg, L.chk, hf, hi, Option.bind_some, List.getElem?_eq_getElem hle, Option.map_some, hkey2, Instr.keyThatStays, L.same, if_true, Sem.run_pure, hs]
      · refine ⟨es.modify i fun e => { e with key := KEnc.kv k, val := VEnc.vv v }, c, by simp [hlt], ?_, mset_nodup hn k v, ?_, ?_⟩
        · apply List.ext_getElem?
          intro j
          unfold mset
          rw [if_pos hmem]
          simp only [List.getElem?_map, Array.getElem?_toList, Array.getElem?_modify]
          have h1 := congrArg (fun l => l[j]?) he
          simp only [List.getElem?_map, Array.getElem?_toList] at h1
          by_cases hj : i = j
          · subst hj
            simp only [if_true]
            rw [List.getElem?_eq_getElem hlt'] at h1 ⊢
            rw [← Array.getElem?_toList, List.getElem?_eq_getElem hle]
            simp [hik']
          · simp only [hj, if_false]
            rw [h1]
            cases hmj : m[j]? with
            | none => rfl
            | some p =>
              have hne : ¬ p.1 = k := by
                intro e
                have hjl : j < m.length := (List.getElem?_eq_some_iff.1 hmj).1
                have hpj : m[j] = p := (List.getElem?_eq_some_iff.1 hmj).2
                have := List.getElem_inj (xs := m.map (·.1)) (i := i) (j := j) (h₀ := by simpa using hlt') (h₁ := by simpa using hjl) hn
                apply hj
                apply this.1
                simp [hik', hpj, e]
              simp [hne]
        · have hb' : (es.modify i fun e => { e with key := KEnc.kv k, val := VEnc.vv v }).toList.map (·.born) = es.toList.map (·.born) := by
            apply List.ext_getElem?
            intro j
            simp only [List.getElem?_map, Array.getElem?_toList, Array.getElem?_modify]
            split
            · rename_i e; subst e; cases es[i]? <;> rfl
            · rfl
          have := (List.pairwise_map (f := fun e : MapEntry => e.born) (R := fun a b => a < b) (l := es.toList)).2 hp
          rw [← hb'] at this
          exact List.pairwise_map.1 this
        · intro e hem
          obtain ⟨j, hj⟩ := List.getElem?_of_mem hem
          simp only [Array.getElem?_toList, Array.getElem?_modify] at hj
          split at hj
          · cases hq : es[j]? with
            | none => rename_i e0; subst e0; rw [hq] at hj; cases hj
            | some q =>
              rename_i e0; subst e0
              rw [hq] at hj; simp at hj; subst hj
              exact hc q (by rw [← Array.getElem?_toList] at hq; exact List.mem_of_getElem? hq)
          · rw [← Array.getElem?_toList] at hj
            exact hc e (List.mem_of_getElem? hj)
  · refine ⟨es.push { key := KEnc.kv k, val := VEnc.vv v, born := c }, c + 1, ?_, ?_⟩
    · simp only [Instr.mapUpdate, Sem.run_bind, run_underlying hM, Result.andThen_ok, hg, L.chk, hf, findIdx_none hmem, Option.bind_none, hs]
    · refine ⟨es.push { key := KEnc.kv k, val := VEnc.vv v, born := c }, c + 1, by simp [hlt], ?_, mset_nodup hn k v, ?_, ?_⟩
      · unfold mset
        rw [if_neg hmem]
        simp [he]
      · simp only [Array.toList_push]
        rw [List.pairwise_append]
        exact ⟨hp, by simp, by intro a ha b hb2; simp at hb2; subst hb2; exact hc a ha⟩
      · intro e hem
        simp only [Array.toList_push, List.mem_append, List.mem_singleton] at hem
        rcases hem with hem | rfl
        · exact Nat.lt_succ_of_lt (hc e hem)
        · exact Nat.lt_succ_self _
section
variable (L : KeyLaws P tK K) (hM : P.underlying tM = some (.map tK tV)) {w : World} {r : Nat} {m : List (K × V)} (h : mapAt K V w r = some m) (k : K) (v : V)
include L hM h
theorem run_mapUpdate_map : (Instr.mapUpdate tM (.map (some r)) (KEnc.kv k) (VEnc.vv v)).run P w = .ok () (mput P tM w r k v) := by
  obtain ⟨es, c, h1, _⟩ := run_mapUpdate_ex L hM h k v
  unfold mput; rw [h1]
theorem mapAt_mput : mapAt K V (mput P tM w r k v) r = some (mset m k v) := by
  obtain ⟨es, c, h1, h2⟩ := run_mapUpdate_ex L hM h k v
  unfold mput; rw [h1]; exact mapAt_iff.2 h2
theorem mput_grown : w.grownBy (mput P tM w r k v) (some r) := by
  obtain ⟨es, c, h1, _⟩ := run_mapUpdate_ex L hM h k v
  unfold mput; rw [h1]
  refine ⟨rfl, rfl, rfl, by simp, fun j hj hne => ?_⟩
  show (w.heap.setIfInBounds r _)[j]? = _
  rw [Array.getElem?_setIfInBounds_ne (by intro e; exact hne (by rw [e]))]
theorem run_len_map (ty : TypeId) : (Builtin.len_ #[tM] ty #[.map (some r)]).run P w = .ok (.int .i64 (m.length : Int)) w := by
  obtain ⟨es, c, hb, he, _⟩ := mapAt_iff.1 h
  have hl : es.toList.length = m.length := by have := congrArg List.length he; simpa using this
  have hg : (getObj r).run P w = .ok (.map es c) w := by simp [getObj, Sem.run, hb]
  simp [Builtin.len_, run_underlying hM, hg, goInt, ← hl]
end
end

/-! ### Keys of integers, of strings; structs as keys -/
theorem run_checkKey_one {P : Program} {t : TypeId} {k : IntKind} (e : Bool) (n : Nat) (h : P.underlying t = some (.int k)) (w : World) (j : IntKind) (a : Int) : (Instr.checkKey e (n + 1) t (.int j a)).run P w = .ok () w := by
  simp [Instr.checkKey, run_underlying h]
theorem run_checkKey_str {P : Program} {t : TypeId} (e : Bool) (n : Nat) (h : P.underlying t = some .string) (w : World) (s : ByteArray) : (Instr.checkKey e (n + 1) t (.string s)).run P w = .ok () w := by
  simp [Instr.checkKey, run_underlying h]
theorem sameBits_int (n : Nat) (k : IntKind) (a : Int) : Instr.sameBits n (.int k a) (.int k a) = true := by cases n <;> simp [Instr.sameBits]
theorem sameBits_str (n : Nat) (s : ByteArray) : Instr.sameBits n (.string s) (.string s) = true := by
  have h : (s == s) = true := by rw [beq_toListBytes]; simp
  cases n <;> simp only [Instr.sameBits, h]
theorem keyLaws_int {P : Program} {t : TypeId} (h : P.underlying t = some (.int .i64)) : KeyLaws P t Int where
  chk := fun e k w => run_checkKey_one e 9999 h w .i64 k
  fnd := fnd_now h (fun k k' => by
    show some (k == k') = some (decide (k' = k))
    congr 1
    rw [Bool.eq_iff_iff, beq_iff_eq, decide_eq_true_eq]; exact eq_comm)
  same := fun k => sameBits_int _ _ _
def chkFs (e : Bool) (n : Nat) (xs : Array Value) : List (TypeId × Nat) → Sem Unit
  | [] => pure ()
  | f :: fs => do
    let a ← part f.1 xs f.2
    Instr.checkKey e n f.1 a
    chkFs e n xs fs
theorem run_checkKey_struct {P : Program} {t : TypeId} (e : Bool) (n : Nat) (xs : Array Value) (w : World) (hu : P.underlying t = some (.struct (P.fieldsOf t))) (hb : noBlank P t = true) :
    (Instr.checkKey e (n + 1) t (.agg xs)).run P w = (chkFs e n xs (fieldTO P t)).run P w := by
  simp only [Instr.checkKey, Sem.run_bind, run_underlying hu, Result.andThen_ok]
  rw [← Array.forIn_toList]
  unfold fieldTO
  unfold noBlank at hb
  generalize (P.fieldsOf t).toList = fs at hb
  clear hu
  induction fs generalizing w with
  | nil => simp [chkFs]
  | cons f fs ih =>
    simp only [List.all_cons, Bool.and_eq_true, bne_iff_ne] at hb
    simp only [List.forIn_cons, List.map_cons, chkFs, Sem.run_bind, hb.1, ne_eq, not_false_eq_true, if_true]
    generalize (part f.type xs f.offset).run P w = r1
    cases r1 with
    | ok a w1 =>
      simp only [Result.andThen_ok]
      generalize (Instr.checkKey e n f.type a).run P w1 = r2
      cases r2 with
      | ok b w2 => simpa using ih w2 hb.2
      | halt x w2 => simp [Result.andThen]
    | halt x w1 => simp [Result.andThen]
theorem sameBits_cells (n : Nat) (cs : List Value) (_h1 : ∀ u ∈ cs, u.oneCell' = true) (h : ∀ u ∈ cs, Instr.sameBits n u u = true) : Instr.sameBits (n + 1) (.agg cs.toArray) (.agg cs.toArray) = true := by
  simp only [Instr.sameBits, beq_self_eq_true, Bool.true_and]
  rw [List.all_eq_true]
  intro p hp
  have : p.1 = p.2 ∧ p.1 ∈ cs := by
    have hz : cs.zip cs = cs.map fun x => (x, x) := by
      clear hp h _h1
      induction cs with
      | nil => rfl
      | cons a l ih => simp [ih]
    have hp' : p ∈ cs.zip cs := hp
    rw [hz] at hp'
    obtain ⟨x, hx, rfl⟩ := List.mem_map.1 hp'
    exact ⟨rfl, hx⟩
  rw [← this.1]; exact h _ this.2

/-! ### The operations, closed to simp -/
@[irreducible] def gLookup (t : TypeId) (m k : Value) (ok : Bool) : Sem Value := Instr.lookup t m k ok
@[irreducible] def gMapUpdate (t : TypeId) (m k v : Value) : Sem Unit := Instr.mapUpdate t m k v
@[irreducible] def noLookup (P : Program) (t : TypeId) (m k : Value) (ok : Bool) (w : World) : Result Value := (Instr.lookup t m k ok).run P w
@[irreducible] def noUpdate (P : Program) (t : TypeId) (m k v : Value) (w : World) : Result Unit := (Instr.mapUpdate t m k v).run P w
def okU (b : Bool) (w : World) (r : Result Unit) : Result Unit := if b then .ok () w else r
@[simp, go_sem] theorem okU_true (w : World) (r : Result Unit) : okU true w r = .ok () w := rfl
section
variable (ρ : Operand → Value) (dst : Option Tmp) (x y z : Operand) (ty : TypeId) (pos : String) (after : Array Edge) (guard : Option (Nat × Bool)) (t : TypeId)
theorem ex_lookup (ok : Bool) : execOp ρ { dst, op := .lookup t x y ok, type := ty, pos, after, guard } = (do pure (.value (← gLookup t (ρ x) (ρ y) ok))) := by unfold gLookup; rfl
theorem ex_mapUpdate : execOp ρ { dst, op := .mapUpdate t x y z, type := ty, pos, after, guard } = (do gMapUpdate t (ρ x) (ρ y) (ρ z); pure .skip) := by unfold gMapUpdate; rfl
end
section
variable {K V : Type} [DecidableEq K] [KEnc K] [VEnc V] {P : Program} {tK tM tV : TypeId}
theorem run_gLookup (L : KeyLaws P tK K) (hM : P.underlying tM = some (.map tK tV)) {d : V} (hz : zeroT P tV = some (VEnc.vv d)) (w : World) (r : Nat) (k : K) :
    (gLookup tM (.map (some r)) (KEnc.kv k) false).run P w = ofOpt ((mapAt K V w r).map fun m => VEnc.vv ((mget m k).getD d)) w (noLookup P tM (.map (some r)) (KEnc.kv k) false w) := by
  cases h : mapAt K V w r with
  | none => unfold gLookup noLookup; rfl
  | some m =>
    unfold gLookup
    rw [run_lookup_map L hM hz h]
    simp only [Bool.false_eq_true, if_false, Option.map_some, ofOpt_some]
    cases mget m k <;> rfl
theorem run_gLookup_ok (L : KeyLaws P tK K) (hM : P.underlying tM = some (.map tK tV)) {d : V} (hz : zeroT P tV = some (VEnc.vv d)) (w : World) (r : Nat) (k : K) :
    (gLookup tM (.map (some r)) (KEnc.kv k) true).run P w = ofOpt ((mapAt K V w r).map fun m => .tuple #[VEnc.vv ((mget m k).getD d), .bool (mget m k).isSome]) w (noLookup P tM (.map (some r)) (KEnc.kv k) true w) := by
  cases h : mapAt K V w r with
  | none => unfold gLookup noLookup; rfl
  | some m =>
    unfold gLookup
    rw [run_lookup_map L hM hz h]
    simp only [if_true, Option.map_some, ofOpt_some]
    cases mget m k <;> rfl
theorem run_gMapUpdate (L : KeyLaws P tK K) (hM : P.underlying tM = some (.map tK tV)) (w : World) (r : Nat) (k : K) (v : V) :
    (gMapUpdate tM (.map (some r)) (KEnc.kv k) (VEnc.vv v)).run P w = okU ((mapAt K V w r).isSome) (mput P tM w r k v) (noUpdate P tM (.map (some r)) (KEnc.kv k) (VEnc.vv v) w) := by
  cases h : mapAt K V w r with
  | none => unfold gMapUpdate noUpdate; rfl
  | some m => unfold gMapUpdate; rw [run_mapUpdate_map L hM h k v]; rfl
end
end Go.Gv
/- Slices of the call that it owns: append, one-element slices, struct literals. Conditions: those named in each theorem. -/
namespace Go.Gv
open Go Go.RowKit
set_option linter.unusedSectionVars false

/-- What an append wants to know of a slice's type. -/
structure ElemI (P : Program) (t e : TypeId) (α : Type) [Enc α] (by8 : Nat) : Prop where
  ht : P.underlying t = some (.slice e)
  ex : (P.info? e).map (fun i => (i.size, i.bytes, i.zero.map fun z => z.cells.size)) = some (Enc.n α, by8, some (Enc.n α))

/-- v is a slice of the call's own that holds xs. -/
def OwnS {α : Type} [Enc α] (w : World) (base : Nat) (e : TypeId) (v : Value) (xs : List α) : Prop := w.ownsRow base e (Enc.n α) v xs.length (xs.flatMap Enc.enc)

section
variable {α : Type} [Enc α] {w w' : World} {base B : Nat} {e t : TypeId} {v : Value} {xs ys : List α} {P : Program}
theorem OwnS.nil (w : World) (base : Nat) (e : TypeId) : OwnS w base e (.slice none 0 0) ([] : List α) := World.ownsRow_nil _ _ _ _
theorem OwnS.kept {row : Option Nat} (h : OwnS w base e v xs) (hg : w.grownBy w' row) (hne : v.ownBlock = none ∨ v.ownBlock ≠ row) : OwnS w' base e v xs := World.ownsRow.kept h hg hne
theorem OwnS.lt (h : OwnS w base e v xs) : ∀ k, v.ownBlock = some k → base ≤ k ∧ k < w.heap.size := World.ownsRow.lt h
theorem OwnS.below {B : Nat} (h : OwnS w base e v xs) (hb : Below B w w') (hB : w.heap.size ≤ B) : OwnS w' base e v xs := by
  refine h.kept (row := none) ⟨hb.os, hb.tape, hb.output, hb.size, fun k hk _ => hb.block k (by omega)⟩ ?_
  cases v.ownBlock <;> simp
theorem OwnS.drew (h : OwnS w base e v xs) : OwnS w.drew base e v xs := h
/-- Its value, written out; and what it reads as. -/
theorem OwnS.shape (h : OwnS w base e v xs) : ∃ A c, v = .slice A xs.length c ∧ Sl α w w.heap.size A xs.length xs ∧ xs.length ≤ c ∧ c ≤ maxLen ∧ (∀ ad, A = some ad → base ≤ ad.block ∧ ad = ⟨ad.block, 0, none⟩ ∧ blkFree w ad.block = true) := by
  rcases h.2 with ⟨rfl, h0⟩ | ⟨g, cap, cur, rfl, hb, hh, hc, hm, hsz, htake⟩
  · have : xs = [] := List.eq_nil_of_length_eq_zero h0
    subst this
    exact ⟨none, 0, rfl, Sl.nil, Nat.le_refl _, Nat.zero_le _, fun ad h => by cases h⟩
  · have hlt : g < w.heap.size := (Array.getElem?_eq_some_iff.1 hh).1
    refine ⟨some ⟨g, 0, none⟩, cap, rfl, Sl.of_row hh htake rfl hlt, hc, hm, fun ad h => ?_⟩
    injection h with h; subst h
    exact ⟨hb, rfl, by unfold blkFree; rw [hh]; rfl⟩
theorem flat_get {xs : List α} {j : Nat} {u : Value} (h : (xs.flatMap Enc.enc)[j]? = some u) : ∃ k i x, xs[k]? = some x ∧ (Enc.enc x)[i]? = some u ∧ j = k * Enc.n α + i := by
  induction xs generalizing j with
  | nil => simp at h
  | cons x xs ih =>
    rw [List.flatMap_cons] at h
    by_cases hj : j < Enc.n α
    · rw [List.getElem?_append_left (by rw [Enc.len]; exact hj)] at h
      exact ⟨0, j, x, rfl, h, by omega⟩
    · rw [List.getElem?_append_right (by rw [Enc.len]; omega), Enc.len] at h
      obtain ⟨k, i, y, h1, h2, h3⟩ := ih h
      exact ⟨k + 1, i, y, h1, h2, by rw [Nat.add_mul]; omega⟩
theorem Sl.flat {A : Option Addr} {m : Nat} (h : Sl α w B A m xs) (hm : 0 < m) : ∃ ad, A = some ad ∧ ∀ j u, (xs.flatMap Enc.enc)[j]? = some u → w.cell? (ad.add j) = some u := by
  obtain ⟨ad, e, _, hc⟩ := h.2 hm
  refine ⟨ad, e, fun j u hu => ?_⟩
  obtain ⟨k, i, x, h1, h2, rfl⟩ := flat_get hu
  have := get?_iff.1 (hc k x h1) i u h2
  rwa [add_add] at this
theorem flat_one (xs : List α) : ∀ u ∈ xs.flatMap Enc.enc, u.oneCell' = true := by
  intro u hu
  obtain ⟨x, _, h⟩ := List.mem_flatMap.1 hu
  exact Enc.one x u h
theorem run_append_nil {by8 : Nat} (E : ElemI P t e α by8) (hown : OwnS w base e v xs) (ty : TypeId) (c : Nat) : (Builtin.append_ #[t, t] ty #[v, .slice none 0 c]).run P w = .ok v w := by
  obtain ⟨i, hi, hx⟩ := Option.map_eq_some_iff.1 E.ex
  rcases hown.2 with ⟨rfl, _⟩ | ⟨g, cap, cur, rfl, _, _, hnc, _⟩
  · simp [Builtin.append_, run_underlying E.ht, sizeOf, typeInfo, hi, Builtin.lenOf, Builtin.firstCells]
  · simp [Builtin.append_, run_underlying E.ht, sizeOf, typeInfo, hi, Builtin.lenOf, Builtin.firstCells, hnc, storeCells]
theorem run_append_S {by8 : Nat} (E : ElemI P t e α by8) (hown : OwnS w base e v xs) {A : Option Addr} {m c : Nat} (hr : Sl α w B A m ys) (h63 : xs.length + m ≤ maxLen) (hbytes : (xs.length + m) * by8 ≤ 140737488355328) (hbase : base ≤ w.heap.size) (hA : m = 0 → A = none ∨ A ≠ none) (ty : TypeId) :
    ∃ v' w', (Builtin.append_ #[t, t] ty #[v, .slice A m c]).run P w = .ok v' w' ∧ OwnS w' base e v' (xs ++ ys) ∧ w.grownBy w' v.ownBlock ∧ (v'.ownBlock = v.ownBlock ∨ v'.ownBlock = some w.heap.size) := by
  obtain ⟨i, hi, hx⟩ := Option.map_eq_some_iff.1 E.ex
  simp only [Prod.mk.injEq, Option.map_eq_some_iff] at hx
  obtain ⟨h1, h2, z, h3, h4⟩ := hx
  have hl := hr.1
  cases A with
  | none =>
    have hm : m = 0 := by
      rcases Nat.eq_zero_or_pos m with h0 | h0
      · exact h0
      · obtain ⟨ad, h, _⟩ := hr.2 h0; cases h
    subst hm
    have : ys = [] := List.eq_nil_of_length_eq_zero hl
    subst this
    exact ⟨v, w, run_append_nil E hown ty c, by simpa using hown, ⟨rfl, rfl, rfl, Nat.le_refl _, fun _ _ _ => rfl⟩, .inl rfl⟩
  | some ad =>
    have hcells : ∀ j u, (ys.flatMap Enc.enc)[j]? = some u → w.cell? (ad.add j) = some u := by
      intro j u hu
      rcases Nat.eq_zero_or_pos m with h0 | h0
      · subst h0
        have : ys = [] := List.eq_nil_of_length_eq_zero hl
        subst this; simp at hu
      · obtain ⟨ad', h, hc⟩ := hr.flat h0
        injection h with h; subst h
        exact hc j u hu
    obtain ⟨v', w', hrun, g1, g2, _, g3⟩ := run_append_own_at (P := P) w base t ty e i z (Enc.n α) by8 E.ht hi h3 h1 h2 h4 Enc.pos v xs.length _ hown ad m c (ys.flatMap Enc.enc) (by rw [flat_len, hl]) hcells (flat_one ys) h63 hbytes hbase
    refine ⟨v', w', hrun, ?_, g2, g3⟩
    unfold OwnS
    rw [List.flatMap_append, List.length_append, hl]
    exact g1

theorem cell_zero {a : Addr} {u : Value} (h : w.cell? (a.add 0) = some u) : w.cell? a = some u := by simpa [Addr.add] using h
end

/-! ### A new slice of structs, written out -/
section
variable {α : Type} [Enc α] {P : Program} {t e : TypeId}
theorem fill_one {n : Nat} (z cs : Array Value) (_hz : z.size = n) (hc : cs.size = n) (_hn : 0 < n) : Instr.fill (fun i => some (i * n, n)) ((Array.range (1 * n)).map (fun x => z[x % z.size]!)) [(0, .agg cs)] = some cs := by
  simp only [Instr.fill, Value.cells, hc, ne_eq, not_true_eq_false, Nat.zero_mul, Nat.zero_add, decide_false, Bool.false_or, Nat.one_mul]
  rw [if_neg (by simp)]
  congr 1
  have key : ∀ (k : Nat) (X : Array Value), X.size = n → (cs.zipIdx.toList.take k).foldl (fun (a : Array Value) (p : Value × Nat) => a.setIfInBounds p.2 p.1) X = ((cs.toList.take k) ++ X.toList.drop (min k n)).toArray := by
    intro k X hX
    induction k with
    | zero => simp
    | succ k ih =>
      by_cases hk : k < n
      · have hzk : cs.zipIdx.toList.take (k + 1) = cs.zipIdx.toList.take k ++ [(cs[k]'(by omega), k)] := by
          rw [List.take_succ_eq_append_getElem (by simpa [hc] using hk)]
          simp
        rw [hzk, List.foldl_append, ih, List.foldl_cons, List.foldl_nil]
        have e2 : cs.toList.take (k + 1) = cs.toList.take k ++ [cs[k]'(by omega)] := by
          rw [List.take_succ_eq_append_getElem (by simpa [hc] using hk)]
          simp
        have hXk : X.toList.drop (min k n) = X[k]'(by omega) :: X.toList.drop (k + 1) := by
          rw [Nat.min_eq_left (by omega), List.drop_eq_getElem_cons (by simpa [hX] using hk)]
          simp
        rw [e2, hXk]
        apply Array.ext'
        have hlen : (cs.toList.take k).length = k := by simp; omega
        simp only [Array.toList_setIfInBounds]
        rw [List.set_append_right _ _ (by rw [hlen]; exact Nat.le_refl _), hlen, Nat.sub_self, List.set_cons_zero, Nat.min_eq_left (by omega)]
        simp
      · rw [List.take_of_length_le (by simp [hc]; omega)] at ih ⊢
        rw [ih, Nat.min_eq_right (by omega), Nat.min_eq_right (by omega), List.take_of_length_le (by simp [hc]; omega), List.take_of_length_le (by simp [hc]; omega)]
  have h0 := key n ((Array.range n).map (fun x => z[x % z.size]!)) (by simp)
  rw [List.take_of_length_le (by simp [hc]), List.take_of_length_le (by simp [hc]), Nat.min_self, List.drop_eq_nil_of_le (by simp), List.append_nil] at h0
  rw [← Array.foldl_toList]
  simpa using h0
theorem run_buildSlice_one {by8 : Nat} (E : ElemI P t e α by8) (hsmall : Enc.n α ≤ 16777216) (x : α) (w : World) :
    (gBuildSlice t 1 #[(0, .agg (Enc.enc x).toArray)]).run P w = .ok (.slice (some ⟨w.heap.size, 0, none⟩) 1 1) (w.alloc (.cells (Enc.enc x).toArray e)) := by
  obtain ⟨i, hi, hx⟩ := Option.map_eq_some_iff.1 E.ex
  simp only [Prod.mk.injEq, Option.map_eq_some_iff] at hx
  obtain ⟨h1, h2, z, h3, h4⟩ := hx
  have hp : 0 < Enc.n α := Enc.pos
  have hf := fill_one z.cells (Enc.enc x).toArray h4 (by simp [Enc.len]) hp
  have hne : ¬ (1 * Enc.n α = 0) := by omega
  have hle : ¬ (1 * Enc.n α > 2 ^ 24) := by simp; omega
  unfold gBuildSlice
  simp only [Instr.buildSlice, Sem.run_bind, run_underlying E.ht, Result.andThen_ok, sizeOf, typeInfo, hi, run_program, Sem.run_pure, h1, hle, hne, if_false, zeroValue, h3, hf]
  simp [newRow]
end

/-! ### Struct literals -/
theorem set_seg (pre old post vs : List Value) (off : Nat) (hp : pre.length = off) (ho : old.length = vs.length) :
    vs.toArray.zipIdx.foldl (fun (X : Array Value) (p : Value × Nat) => X.setIfInBounds (off + p.2) p.1) (pre ++ (old ++ post)).toArray = (pre ++ (vs ++ post)).toArray := by
  subst hp
  rw [← Array.foldl_toList]
  have hz : vs.toArray.zipIdx.toList = vs.zipIdx := by simp
  rw [hz]
  have key : ∀ (vs old done : List Value), old.length = vs.length → (vs.zipIdx done.length).foldl (fun (X : Array Value) (p : Value × Nat) => X.setIfInBounds (pre.length + p.2) p.1) (pre ++ (done ++ (old ++ post))).toArray = (pre ++ (done ++ (vs ++ post))).toArray := by
    intro vs
    induction vs with
    | nil => intro old done h; have : old = [] := List.eq_nil_of_length_eq_zero h; subst this; simp
    | cons v vs ih =>
      intro old done h
      cases old with
      | nil => simp at h
      | cons u old =>
        simp only [List.zipIdx_cons, List.foldl_cons]
        have e : (pre ++ (done ++ (u :: old ++ post))).toArray.setIfInBounds (pre.length + done.length) v = (pre ++ ((done ++ [v]) ++ (old ++ post))).toArray := by
          apply Array.ext'
          simp only [Array.toList_setIfInBounds]
          rw [List.set_append_right _ _ (by omega), Nat.add_sub_cancel_left, List.set_append_right _ _ (Nat.le_refl _), Nat.sub_self]
          simp
        rw [e]
        have := ih old (done ++ [v]) (by simpa using h)
        rw [List.length_append, List.length_singleton] at this
        rw [this]; simp
  simpa using key vs old [] ho
theorem fill_seg (L : List (Nat × Nat)) (i off sz : Nat) (hi : L[i]? = some (off, sz)) (pre old post vs : List Value) (v : Value) (rest : List (Nat × Value)) (hv : v.cells = vs.toArray) (hp : pre.length = off) (ho : old.length = sz) (hs : vs.length = sz) :
    Instr.fill (fun i => L[i]?) (pre ++ (old ++ post)).toArray ((i, v) :: rest) = Instr.fill (fun i => L[i]?) (pre ++ (vs ++ post)).toArray rest := by
  have h := set_seg pre old post vs off hp (by omega)
  have hle : ¬ (off + sz > (pre ++ (old ++ post)).length) := by simp; omega
  have hsz : vs.toArray.size = sz := by simpa using hs
  simp only [Instr.fill, hi, hv, hsz, ne_eq, not_true_eq_false, decide_false, Bool.false_or, List.size_toArray, hle, h]
  simp
theorem run_gBuild_of {P : Program} {t : TypeId} {z cs : List Value} {L : List (Nat × Nat)} {parts : Array (Nat × Value)} (hu : P.underlying t = some (.struct (P.fieldsOf t))) (hz : zeroT P t = some (.agg z.toArray))
    (hL : ((P.fieldsOf t).toList.mapM fun f => (P.info? f.type).map fun i => (f.offset, i.size)) = some L) (h : Instr.fill (fun i => L[i]?) z.toArray parts.toList = some cs.toArray) (w : World) :
    (gBuild t parts).run P w = .ok (.agg cs.toArray) w := by
  unfold gBuild
  apply run_build
  unfold Program.built
  unfold zeroT at hz
  cases hi : P.info? t with
  | none => simp [hi] at hz
  | some i =>
    rw [hi] at hz
    simp only [Option.bind_some] at hz
    simp only [hu, hz, hL, Value.cells]
    simpa using h
/-! ### Appends, closed to simp -/
@[irreducible] def gAppend (tys : Array TypeId) (ty : TypeId) (vs : Array Value) : Sem Value := Builtin.append_ tys ty vs
@[go_sem ↓ high] theorem ex_append (ρ : Operand → Value) (dst : Option Tmp) (s x : Operand) (t u ty : TypeId) (pos : String) (after : Array Edge) (guard : Option (Nat × Bool)) :
    execOp ρ { dst, op := .call { callee := .builtin .append, args := #[s, x], argTypes := #[t, u] }, type := ty, pos, after, guard } = (do pure (.value (← gAppend #[t, u] ty #[ρ s, ρ x]))) := by
  unfold gAppend execOp
  simp only [resolve, invoke, builtin, List.map_toArray, List.map_cons, List.map_nil]
  rfl
theorem gAppend_S {α : Type} [Enc α] {w : World} {base B : Nat} {e t : TypeId} {v : Value} {xs ys : List α} {P : Program} {by8 : Nat} (E : ElemI P t e α by8) (hown : OwnS w base e v xs) {A : Option Addr} {m c : Nat} (hr : Sl α w B A m ys) (h63 : xs.length + m ≤ maxLen) (hbytes : (xs.length + m) * by8 ≤ 140737488355328) (hbase : base ≤ w.heap.size) (ty : TypeId) :
    ∃ v' w', (gAppend #[t, t] ty #[v, .slice A m c]).run P w = .ok v' w' ∧ OwnS w' base e v' (xs ++ ys) ∧ w.grownBy w' v.ownBlock ∧ (v'.ownBlock = v.ownBlock ∨ v'.ownBlock = some w.heap.size) := by
  unfold gAppend
  exact run_append_S E hown hr h63 hbytes hbase (fun _ => by cases A <;> simp) ty
end Go.Gv
/- The struct types of this seat as Lean types, with the runs of single operations over them. Conditions: those named in each theorem. -/
namespace Go.Proofs.YtfhhcgldikmejaaGreatDoor
open Go Go.RowKit Go.Gv
set_option linter.unusedSimpArgs false

theorem na3 : aggT Tryz.prog 3 = false := by kernel_rfl
theorem us3 : (Tryz.prog.underlying 3).isSome = true := by kernel_rfl
theorem uk3 : Tryz.prog.underlying 3 = some (.int .i64) := by kernel_rfl
theorem na5 : aggT Tryz.prog 5 = false := by kernel_rfl
theorem us5 : (Tryz.prog.underlying 5).isSome = true := by kernel_rfl
theorem uk5 : Tryz.prog.underlying 5 = some (.int .u8) := by kernel_rfl
theorem na22 : aggT Tryz.prog 22 = false := by kernel_rfl
theorem us22 : (Tryz.prog.underlying 22).isSome = true := by kernel_rfl
theorem uk22 : Tryz.prog.underlying 22 = some (.int .u64) := by kernel_rfl
@[go_sem ↓ high] theorem xl_GHash (ρ : Operand → Value) (dst : Option Tmp) (x : Operand) (ty : TypeId) (pos : String) (after : Array Edge) (guard : Option (Nat × Bool)) : execOp ρ { dst, op := .load 35 x, type := ty, pos, after, guard } = (do pure (.value (← gLoad 35 (ρ x)))) := ex_load ..
@[go_sem ↓ high] theorem xb_GHash (ρ : Operand → Value) (dst : Option Tmp) (x : Operand) (ty : TypeId) (pos : String) (after : Array Edge) (guard : Option (Nat × Bool)) : execOp ρ { dst, op := .box 35 x, type := ty, pos, after, guard } = (do pure (.value (← gBox 35 (ρ x)))) := ex_box ..
theorem ag35 : aggT Tryz.prog 35 = true := by kernel_rfl
theorem sz35 : sizeT Tryz.prog 35 = 32 := by kernel_rfl
section
variable (w : World)
@[go_sem ↓ high] theorem ld_GHash (a : Addr) : (gLoad 35 (.pointer (some a))).run Tryz.prog w = ofOpt ((get? GHash w a).map GHash.val) w (noLoad Tryz.prog 35 a w) := by
  unfold gLoad; exact run_loadAt_opt ag35 sz35 GHash.val GHash.val_eq
@[go_sem ↓ high] theorem bx_GHash (x : GHash) : (gBox 35 (GHash.val x)).run Tryz.prog w = .ok (.pointer (some ⟨w.heap.size, 0, none⟩)) (w.alloc (.cells (GHash.enc x).toArray 35)) := by
  rw [GHash.val_eq]; exact run_gBox _ w
end
theorem uu35 : Tryz.prog.underlying 35 = some (.array 32 5) := by kernel_rfl
theorem sz5 : sizeT Tryz.prog 5 = 1 := by kernel_rfl
theorem eq_GHash (w : World) (d : Nat) (x y : GHash) : (Op.equalIn (d + 2) 35 (GHash.val x) (GHash.val y)).run Tryz.prog w = .ok (decide (x = y)) w := eq_hash uu35 sz5 na5 uk5 w d x y
@[go_sem ↓ high] theorem xq_GHash (ρ : Operand → Value) (dst : Option Tmp) (x y : Operand) (ty yt : TypeId) (pos : String) (after : Array Edge) (guard : Option (Nat × Bool)) : execOp ρ { dst, op := .binOp .eql 35 x y yt, type := ty, pos, after, guard } = (do pure (.value (← gBin .eql 35 x y (ρ x) (ρ y)))) := ex_eql ..
@[go_sem ↓ high] theorem xn_GHash (ρ : Operand → Value) (dst : Option Tmp) (x y : Operand) (ty yt : TypeId) (pos : String) (after : Array Edge) (guard : Option (Nat × Bool)) : execOp ρ { dst, op := .binOp .neq 35 x y yt, type := ty, pos, after, guard } = (do pure (.value (← gBin .neq 35 x y (ρ x) (ρ y)))) := ex_neq ..
theorem eg_GHash : Tryz.prog.eqGuardType Tryz.prog.depth 35 = false := by kernel_rfl
@[go_sem ↓ high] theorem eql_GHash (w : World) (ox oy : Operand) (x y : GHash) : (gBin .eql 35 ox oy (GHash.val x) (GHash.val y)).run Tryz.prog w = .ok (.bool (decide (x = y))) w := by
  have h2 := eq_GHash w 9998 x y
  rw [GHash.val_eq, GHash.val_eq] at h2 ⊢
  have h := run_eqGuard_agg (P := Tryz.prog) w .eql 35 ox oy (Enc.enc x).toArray (Enc.enc y).toArray eg_GHash
  unfold gBin
  simp only [Sem.run_bind, h, Result.andThen_ok, run_eql_struct, h2]
@[go_sem ↓ high] theorem neq_GHash (w : World) (ox oy : Operand) (x y : GHash) : (gBin .neq 35 ox oy (GHash.val x) (GHash.val y)).run Tryz.prog w = .ok (.bool (!decide (x = y))) w := by
  have h2 := eq_GHash w 9998 x y
  rw [GHash.val_eq, GHash.val_eq] at h2 ⊢
  have h := run_eqGuard_agg (P := Tryz.prog) w .neq 35 ox oy (Enc.enc x).toArray (Enc.enc y).toArray eg_GHash
  unfold gBin
  simp only [Sem.run_bind, h, Result.andThen_ok, run_neq_struct, h2]

/-! ### gavel/api.Name -/
structure GName where
  client : Int
  seq : Int
deriving DecidableEq
instance : Inhabited GName := ⟨⟨0, 0⟩⟩
def GName.enc (x : GName) : List Value := [(.int .i64 x.client)] ++ ([(.int .i64 x.seq)])
theorem GName.enc_len (x : GName) : x.enc.length = 2 := by simp [GName.enc]
theorem GName.enc_one (x : GName) : ∀ u ∈ x.enc, u.oneCell' = true := by
  intro u hu
  simp only [GName.enc, List.mem_append, List.mem_singleton] at hu
  rcases hu with hu | hu
  · subst hu; rfl
  · subst hu; rfl
theorem GName.enc_inj (x y : GName) (h : x.enc = y.enc) : x = y := by
  obtain ⟨a0, a1⟩ := x
  obtain ⟨b0, b1⟩ := y
  simp only [GName.enc] at h
  obtain ⟨p0, q0⟩ := List.append_inj h (rfl)
  have e0 : a0 = b0 := by have := List.head_eq_of_cons_eq p0; injection this
  have e1 : a1 = b1 := by have := List.head_eq_of_cons_eq q0; injection this
  rw [e0, e1]
instance : Enc GName where
  n := 2
  enc := GName.enc
  pos := by omega
  len := GName.enc_len
  one := GName.enc_one
  inj := GName.enc_inj
@[go_sem] theorem GName.n_eq : Enc.n GName = 2 := rfl
@[irreducible] def GName.val (x : GName) : Value := .agg x.enc.toArray
theorem GName.val_eq (x : GName) : GName.val x = .agg (Enc.enc x).toArray := by unfold GName.val; rfl
theorem GName.ext_all (x y : GName) : x = y ↔ x.client = y.client ∧ x.seq = y.seq := by
  constructor
  · intro h; cases h; simp
  · intro h; cases x; cases y; simp_all
theorem uu33 : Tryz.prog.underlying 33 = some (.struct (Tryz.prog.fieldsOf 33)) := by kernel_rfl
theorem st33 : Tryz.prog.stoodInHeld 33 = false := by kernel_rfl
theorem fl33 : fieldTO Tryz.prog 33 = [(3, 0), (3, 1)] := by kernel_rfl
theorem nb33 : noBlank Tryz.prog 33 = true := by kernel_rfl
theorem ag33 : aggT Tryz.prog 33 = true := by kernel_rfl
theorem sz33 : sizeT Tryz.prog 33 = 2 := by kernel_rfl
section
variable (w : World)
end
theorem lk33_0 (x : GName) : x.enc[0]? = some (.int .i64 x.client) := by
  simp [GName.enc, List.getElem?_append]
theorem pt33_0 (w : World) (x : GName) : (part 3 x.enc.toArray 0).run Tryz.prog w = .ok (.int .i64 x.client) w := run_part_one na3 us3 (lk33_0 x)
theorem lk33_1 (x : GName) : x.enc[1]? = some (.int .i64 x.seq) := by
  simp [GName.enc, List.getElem?_append]
theorem pt33_1 (w : World) (x : GName) : (part 3 x.enc.toArray 1).run Tryz.prog w = .ok (.int .i64 x.seq) w := run_part_one na3 us3 (lk33_1 x)
theorem eq_GName (w : World) (d : Nat) (x y : GName) : (Op.equalIn (d + 2) 33 (GName.val x) (GName.val y)).run Tryz.prog w = .ok (decide (x = y)) w := by
  have q0 : ∀ a b, (Op.equalIn (d + 1) 3 (.int .i64 a) (.int .i64 b)).run Tryz.prog w = .ok (decide (a = b)) w := fun a b => by rw [run_equalIn_int w (d + 0) 3 .i64 .i64 a b uk3]; congr 1
  have q1 : ∀ a b, (Op.equalIn (d + 1) 3 (.int .i64 a) (.int .i64 b)).run Tryz.prog w = .ok (decide (a = b)) w := fun a b => by rw [run_equalIn_int w (d + 0) 3 .i64 .i64 a b uk3]; congr 1
  have h := run_equalIn_fields (d + 1) x.enc.toArray y.enc.toArray w uu33 st33 nb33
  rw [fl33] at h
  unfold GName.val
  refine h.trans ?_
  clear h
  simp only [eqFs, Sem.run_bind, pt33_0, pt33_1, q0, q1, Result.andThen_ok, Sem.run_ite, Sem.run_pure]
  have he : decide (x = y) = (decide (x.client = y.client) && (decide (x.seq = y.seq))) := by
    rw [Bool.eq_iff_iff]; simp only [Bool.and_eq_true, decide_eq_true_eq]; exact GName.ext_all x y
  rw [he]
  generalize decide (x.client = y.client) = c0; generalize decide (x.seq = y.seq) = c1
  cases c0 <;> cases c1 <;> simp
/-! ### gavel/api.Entry -/
structure GEntry where
  name : GName
  hash : GHash
  time : Int
deriving DecidableEq
instance : Inhabited GEntry := ⟨⟨default, default, 0⟩⟩
def GEntry.enc (x : GEntry) : List Value := x.name.enc ++ (x.hash.enc ++ ([(.int .u64 x.time)]))
theorem GEntry.enc_len (x : GEntry) : x.enc.length = 35 := by simp [GEntry.enc, GHash.enc_len, GName.enc_len]
theorem GEntry.enc_one (x : GEntry) : ∀ u ∈ x.enc, u.oneCell' = true := by
  intro u hu
  simp only [GEntry.enc, List.mem_append, List.mem_singleton] at hu
  rcases hu with hu | hu | hu
  · exact Enc.one (α := GName) _ _ hu
  · exact Enc.one (α := GHash) _ _ hu
  · subst hu; rfl
theorem GEntry.enc_inj (x y : GEntry) (h : x.enc = y.enc) : x = y := by
  obtain ⟨a0, a1, a2⟩ := x
  obtain ⟨b0, b1, b2⟩ := y
  simp only [GEntry.enc] at h
  obtain ⟨p0, q0⟩ := List.append_inj h (by simp [GName.enc_len])
  have e0 := Enc.inj (α := GName) _ _ p0
  obtain ⟨p1, q1⟩ := List.append_inj q0 (by simp [GHash.enc_len])
  have e1 := Enc.inj (α := GHash) _ _ p1
  have e2 : a2 = b2 := by have := List.head_eq_of_cons_eq q1; injection this
  rw [e0, e1, e2]
instance : Enc GEntry where
  n := 35
  enc := GEntry.enc
  pos := by omega
  len := GEntry.enc_len
  one := GEntry.enc_one
  inj := GEntry.enc_inj
@[go_sem] theorem GEntry.n_eq : Enc.n GEntry = 35 := rfl
@[irreducible] def GEntry.val (x : GEntry) : Value := .agg x.enc.toArray
theorem GEntry.val_eq (x : GEntry) : GEntry.val x = .agg (Enc.enc x).toArray := by unfold GEntry.val; rfl
theorem GEntry.ext_all (x y : GEntry) : x = y ↔ x.name = y.name ∧ x.hash = y.hash ∧ x.time = y.time := by
  constructor
  · intro h; cases h; simp
  · intro h; cases x; cases y; simp_all
theorem uu60 : Tryz.prog.underlying 60 = some (.struct (Tryz.prog.fieldsOf 60)) := by kernel_rfl
theorem st60 : Tryz.prog.stoodInHeld 60 = false := by kernel_rfl
theorem fl60 : fieldTO Tryz.prog 60 = [(33, 0), (35, 2), (22, 34)] := by kernel_rfl
theorem nb60 : noBlank Tryz.prog 60 = true := by kernel_rfl
@[go_sem ↓ high] theorem xl_GEntry (ρ : Operand → Value) (dst : Option Tmp) (x : Operand) (ty : TypeId) (pos : String) (after : Array Edge) (guard : Option (Nat × Bool)) : execOp ρ { dst, op := .load 60 x, type := ty, pos, after, guard } = (do pure (.value (← gLoad 60 (ρ x)))) := ex_load ..
theorem ag60 : aggT Tryz.prog 60 = true := by kernel_rfl
theorem sz60 : sizeT Tryz.prog 60 = 35 := by kernel_rfl
section
variable (w : World)
@[go_sem ↓ high] theorem ld_GEntry (a : Addr) : (gLoad 60 (.pointer (some a))).run Tryz.prog w = ofOpt ((get? GEntry w a).map GEntry.val) w (noLoad Tryz.prog 60 a w) := by
  unfold gLoad; exact run_loadAt_opt ag60 sz60 GEntry.val GEntry.val_eq
end
theorem ds60_0 (x : GEntry) : (x.enc.drop 0).take 2 = x.name.enc := by
  unfold GEntry.enc
  simp only [List.drop_zero] <;> (rw [List.take_append_of_le_length (by simp [GName.enc_len])]; exact List.take_of_length_le (by simp [GName.enc_len]))
theorem pt60_0 (w : World) (x : GEntry) : (part 33 x.enc.toArray 0).run Tryz.prog w = .ok (x.name.val) w := by
  have h := run_part_agg (P := Tryz.prog) (w := w) (cs := x.enc) (ds := x.name.enc) (off := 0) ag33 (by rw [GName.enc_len]; exact sz33) (by simp [GName.enc_len]) (by rw [GName.enc_len]; exact ds60_0 x)
  rw [h, GName.val_eq]; rfl
theorem ds60_1 (x : GEntry) : (x.enc.drop 2).take 32 = x.hash.enc := by
  unfold GEntry.enc
  simp [List.drop_append, List.drop_eq_nil_of_le, GName.enc_len] <;> (rw [List.take_append_of_le_length (by simp [GHash.enc_len])]; exact List.take_of_length_le (by simp [GHash.enc_len]))
theorem pt60_1 (w : World) (x : GEntry) : (part 35 x.enc.toArray 2).run Tryz.prog w = .ok (x.hash.val) w := by
  have h := run_part_agg (P := Tryz.prog) (w := w) (cs := x.enc) (ds := x.hash.enc) (off := 2) ag35 (by rw [GHash.enc_len]; exact sz35) (by simp [GHash.enc_len]) (by rw [GHash.enc_len]; exact ds60_1 x)
  rw [h, GHash.val_eq]; rfl
theorem lk60_2 (x : GEntry) : x.enc[34]? = some (.int .u64 x.time) := by
  simp [GEntry.enc, List.getElem?_append, GHash.enc_len, GName.enc_len]
theorem pt60_2 (w : World) (x : GEntry) : (part 22 x.enc.toArray 34).run Tryz.prog w = .ok (.int .u64 x.time) w := run_part_one na22 us22 (lk60_2 x)
theorem eq_GEntry (w : World) (d : Nat) (x y : GEntry) : (Op.equalIn (d + 3) 60 (GEntry.val x) (GEntry.val y)).run Tryz.prog w = .ok (decide (x = y)) w := by
  have q0 : (Op.equalIn (d + 2) 33 x.name.val y.name.val).run Tryz.prog w = .ok (decide (x.name = y.name)) w := eq_GName w (d + 0) _ _
  have q1 : (Op.equalIn (d + 2) 35 x.hash.val y.hash.val).run Tryz.prog w = .ok (decide (x.hash = y.hash)) w := eq_GHash w (d + 0) _ _
  have q2 : ∀ a b, (Op.equalIn (d + 2) 22 (.int .u64 a) (.int .u64 b)).run Tryz.prog w = .ok (decide (a = b)) w := fun a b => by rw [run_equalIn_int w (d + 1) 22 .u64 .u64 a b uk22]; congr 1
  have h := run_equalIn_fields (d + 2) x.enc.toArray y.enc.toArray w uu60 st60 nb60
  rw [fl60] at h
  unfold GEntry.val
  refine h.trans ?_
  clear h
  simp only [eqFs, Sem.run_bind, pt60_0, pt60_1, pt60_2, q0, q1, q2, Result.andThen_ok, Sem.run_ite, Sem.run_pure]
  have he : decide (x = y) = (decide (x.name = y.name) && (decide (x.hash = y.hash) && (decide (x.time = y.time)))) := by
    rw [Bool.eq_iff_iff]; simp only [Bool.and_eq_true, decide_eq_true_eq]; exact GEntry.ext_all x y
  rw [he]
  generalize decide (x.name = y.name) = c0; generalize decide (x.hash = y.hash) = c1; generalize decide (x.time = y.time) = c2
  cases c0 <;> cases c1 <;> cases c2 <;> simp
@[go_sem ↓ high] theorem xq_GEntry (ρ : Operand → Value) (dst : Option Tmp) (x y : Operand) (ty yt : TypeId) (pos : String) (after : Array Edge) (guard : Option (Nat × Bool)) : execOp ρ { dst, op := .binOp .eql 60 x y yt, type := ty, pos, after, guard } = (do pure (.value (← gBin .eql 60 x y (ρ x) (ρ y)))) := ex_eql ..
theorem eg_GEntry : Tryz.prog.eqGuardType Tryz.prog.depth 60 = false := by kernel_rfl
@[go_sem ↓ high] theorem eql_GEntry (w : World) (ox oy : Operand) (x y : GEntry) : (gBin .eql 60 ox oy (GEntry.val x) (GEntry.val y)).run Tryz.prog w = .ok (.bool (decide (x = y))) w := by
  have h2 := eq_GEntry w 9997 x y
  rw [GEntry.val_eq, GEntry.val_eq] at h2 ⊢
  have h := run_eqGuard_agg (P := Tryz.prog) w .eql 60 ox oy (Enc.enc x).toArray (Enc.enc y).toArray eg_GEntry
  unfold gBin
  simp only [Sem.run_bind, h, Result.andThen_ok, run_eql_struct, h2]
/-! ### []api.Name -/
/-! ### []uint64 -/
/-! ### []int -/
end Go.Proofs.YtfhhcgldikmejaaGreatDoor
/- The struct types of this seat as Lean types, with the runs of single operations over them. Conditions: those named in each theorem. -/
namespace Go.Proofs.YtfhhcgldikmejaaGreatDoor
open Go Go.RowKit Go.Gv
set_option linter.unusedSimpArgs false

/-! ### gavel/api.Conf -/
structure GConf where
  f : Int
  clients : Int
deriving DecidableEq
instance : Inhabited GConf := ⟨⟨0, 0⟩⟩
def GConf.enc (x : GConf) : List Value := [(.int .i64 x.f)] ++ ([(.int .i64 x.clients)])
theorem GConf.enc_len (x : GConf) : x.enc.length = 2 := by simp [GConf.enc]
theorem GConf.enc_one (x : GConf) : ∀ u ∈ x.enc, u.oneCell' = true := by
  intro u hu
  simp only [GConf.enc, List.mem_append, List.mem_singleton] at hu
  rcases hu with hu | hu
  · subst hu; rfl
  · subst hu; rfl
theorem GConf.enc_inj (x y : GConf) (h : x.enc = y.enc) : x = y := by
  obtain ⟨a0, a1⟩ := x
  obtain ⟨b0, b1⟩ := y
  simp only [GConf.enc] at h
  obtain ⟨p0, q0⟩ := List.append_inj h (rfl)
  have e0 : a0 = b0 := by have := List.head_eq_of_cons_eq p0; injection this
  have e1 : a1 = b1 := by have := List.head_eq_of_cons_eq q0; injection this
  rw [e0, e1]
instance : Enc GConf where
  n := 2
  enc := GConf.enc
  pos := by omega
  len := GConf.enc_len
  one := GConf.enc_one
  inj := GConf.enc_inj
@[go_sem] theorem GConf.n_eq : Enc.n GConf = 2 := rfl
@[irreducible] def GConf.val (x : GConf) : Value := .agg x.enc.toArray
theorem GConf.val_eq (x : GConf) : GConf.val x = .agg (Enc.enc x).toArray := by unfold GConf.val; rfl
theorem uu24 : Tryz.prog.underlying 24 = some (.struct (Tryz.prog.fieldsOf 24)) := by kernel_rfl
@[go_sem ↓ high] theorem xl_GConf (ρ : Operand → Value) (dst : Option Tmp) (x : Operand) (ty : TypeId) (pos : String) (after : Array Edge) (guard : Option (Nat × Bool)) : execOp ρ { dst, op := .load 24 x, type := ty, pos, after, guard } = (do pure (.value (← gLoad 24 (ρ x)))) := ex_load ..
@[go_sem ↓ high] theorem xs_GConf (ρ : Operand → Value) (dst : Option Tmp) (x y : Operand) (ty : TypeId) (pos : String) (after : Array Edge) (guard : Option (Nat × Bool)) : execOp ρ { dst, op := .store 24 x y, type := ty, pos, after, guard } = (do gStore 24 (ρ x) (ρ y); pure .skip) := ex_store ..
@[go_sem ↓ high] theorem xb_GConf (ρ : Operand → Value) (dst : Option Tmp) (x : Operand) (ty : TypeId) (pos : String) (after : Array Edge) (guard : Option (Nat × Bool)) : execOp ρ { dst, op := .box 24 x, type := ty, pos, after, guard } = (do pure (.value (← gBox 24 (ρ x)))) := ex_box ..
@[go_sem ↓ high] theorem xa_GConf (ρ : Operand → Value) (dst : Option Tmp) (ty : TypeId) (pos : String) (after : Array Edge) (guard : Option (Nat × Bool)) : execOp ρ { dst, op := .alloc 24, type := ty, pos, after, guard } = (do pure (.value (← gAlloc 24))) := ex_alloc ..
theorem ag24 : aggT Tryz.prog 24 = true := by kernel_rfl
theorem sz24 : sizeT Tryz.prog 24 = 2 := by kernel_rfl
section
variable (w : World)
@[go_sem ↓ high] theorem ld_GConf (a : Addr) : (gLoad 24 (.pointer (some a))).run Tryz.prog w = ofOpt ((get? GConf w a).map GConf.val) w (noLoad Tryz.prog 24 a w) := by
  unfold gLoad; exact run_loadAt_opt ag24 sz24 GConf.val GConf.val_eq
@[go_sem ↓ high] theorem st_GConf (a : Addr) (x : GConf) : (gStore 24 (.pointer (some a)) (GConf.val x)).run Tryz.prog w = okU' ((get? GConf w a).isSome && blkFree w a.block) (World.putCells w a (GConf.enc x)) (noStore Tryz.prog 24 (.pointer (some a)) (GConf.val x) w) := run_gStore_any sz24 GConf.val GConf.val_eq w a x
@[go_sem ↓ high] theorem bx_GConf (x : GConf) : (gBox 24 (GConf.val x)).run Tryz.prog w = .ok (.pointer (some ⟨w.heap.size, 0, none⟩)) (w.alloc (.cells (GConf.enc x).toArray 24)) := by
  rw [GConf.val_eq]; exact run_gBox _ w
end
theorem lk24_0 (x : GConf) : x.enc[0]? = some (.int .i64 x.f) := by
  simp [GConf.enc, List.getElem?_append]
theorem lk24_1 (x : GConf) : x.enc[1]? = some (.int .i64 x.clients) := by
  simp [GConf.enc, List.getElem?_append]
theorem zr24 : zeroT Tryz.prog 24 = some (.agg (GConf.enc default).toArray) := by kernel_rfl
@[go_sem ↓ high] theorem al_GConf (w : World) : (gAlloc 24).run Tryz.prog w = .ok (.pointer (some ⟨w.heap.size, 0, none⟩)) (w.alloc (.cells (GConf.enc default).toArray 24)) := run_zero_alloc zr24 w
@[go_sem] theorem pc_GConf (w : World) (n : Nat) (x z : GConf) (hn : n = w.heap.size) : World.putCells (w.alloc (.cells (GConf.enc z).toArray 24)) ⟨n, 0, none⟩ (GConf.enc x) = w.alloc (.cells (GConf.enc x).toArray 24) := putCells_top x z hn
theorem GConf.at_f {w : World} {a : Addr} {x : GConf} (h : get? GConf w a = some x) : w.cell? (a.add 0) = some (.int .i64 x.f) := (get?_iff.1 h) _ _ (lk24_0 x)
theorem GConf.at_clients {w : World} {a : Addr} {x : GConf} (h : get? GConf w a = some x) : w.cell? (a.add 1) = some (.int .i64 x.clients) := (get?_iff.1 h) _ _ (lk24_1 x)
@[go_sem] theorem nl24_0 (x : GConf) : x.enc[0]? = some (.int .i64 x.f) := by
  have h := (GConf.at_f (get?_new (w := (default : World)) 24 x))
  simp only [Addr.add_lit, Nat.zero_add, Nat.reduceAdd, World.cell?_alloc_new, List.getElem?_toArray] at h
  exact h
@[go_sem] theorem nl24_1 (x : GConf) : x.enc[1]? = some (.int .i64 x.clients) := by
  have h := (GConf.at_clients (get?_new (w := (default : World)) 24 x))
  simp only [Addr.add_lit, Nat.zero_add, Nat.reduceAdd, World.cell?_alloc_new, List.getElem?_toArray] at h
  exact h
@[go_sem] theorem nw24 (w : World) (n : Nat) (x : GConf) (hn : n = w.heap.size) : get? GConf (w.alloc (.cells (GConf.enc x).toArray 24)) ⟨n, 0, none⟩ = some x := by
  subst hn; exact get?_new 24 x
theorem pl24 : ((Tryz.prog.fieldsOf 24).toList.mapM fun f => (Tryz.prog.info? f.type).map fun i => (f.offset, i.size)) = some [(0, 1), (1, 1)] := by kernel_rfl
theorem fs24_0 (x : GConf) (v : Int) (rest : List (Nat × Value)) : Instr.fill (fun i => ([(0, 1), (1, 1)] : List (Nat × Nat))[i]?) x.enc.toArray ((0, (.int .i64 v)) :: rest) = Instr.fill (fun i => ([(0, 1), (1, 1)] : List (Nat × Nat))[i]?) ({ x with f := v } : GConf).enc.toArray rest := by
  have h := fill_seg [(0, 1), (1, 1)] 0 0 1 rfl (([] : List Value)) ([(.int .i64 x.f)]) ([(.int .i64 x.clients)] ++ (([] : List Value))) ([(.int .i64 v)]) (.int .i64 v) rest (rfl) (by simp) (by simp) (by simp)
  have e1 : x.enc = (([] : List Value)) ++ ([(.int .i64 x.f)] ++ ([(.int .i64 x.clients)] ++ (([] : List Value)))) := by simp only [GConf.enc, List.nil_append, List.append_assoc, List.append_nil]
  have e2 : ({ x with f := v } : GConf).enc = (([] : List Value)) ++ ([(.int .i64 v)] ++ ([(.int .i64 x.clients)] ++ (([] : List Value)))) := by simp only [GConf.enc, List.nil_append, List.append_assoc, List.append_nil]
  rw [e1, e2]; exact h
theorem fs24_1 (x : GConf) (v : Int) (rest : List (Nat × Value)) : Instr.fill (fun i => ([(0, 1), (1, 1)] : List (Nat × Nat))[i]?) x.enc.toArray ((1, (.int .i64 v)) :: rest) = Instr.fill (fun i => ([(0, 1), (1, 1)] : List (Nat × Nat))[i]?) ({ x with clients := v } : GConf).enc.toArray rest := by
  have h := fill_seg [(0, 1), (1, 1)] 1 1 1 rfl (([] : List Value) ++ ([(.int .i64 x.f)])) ([(.int .i64 x.clients)]) (([] : List Value)) ([(.int .i64 v)]) (.int .i64 v) rest (rfl) (by simp) (by simp) (by simp)
  have e1 : x.enc = (([] : List Value) ++ ([(.int .i64 x.f)])) ++ ([(.int .i64 x.clients)] ++ (([] : List Value))) := by simp only [GConf.enc, List.nil_append, List.append_assoc, List.append_nil]
  have e2 : ({ x with clients := v } : GConf).enc = (([] : List Value) ++ ([(.int .i64 x.f)])) ++ ([(.int .i64 v)] ++ (([] : List Value))) := by simp only [GConf.enc, List.nil_append, List.append_assoc, List.append_nil]
  rw [e1, e2]; exact h
@[go_sem ↓ high] theorem xd_GConf (ρ : Operand → Value) (dst : Option Tmp) (ps : Array (Nat × Operand)) (ty : TypeId) (pos : String) (after : Array Edge) (guard : Option (Nat × Bool)) : execOp ρ { dst, op := .build 24 ps, type := ty, pos, after, guard } = (do pure (.value (← gBuild 24 (ps.map fun (i, x) => (i, ρ x))))) := ex_build ..
@[go_sem ↓ high] theorem bd24_0 (w : World) (v0 : Int) (v1 : Int) : (gBuild 24 #[(0, (.int .i64 v0)), (1, (.int .i64 v1))]).run Tryz.prog w = .ok (GConf.val ⟨v0, v1⟩) w := by
  rw [GConf.val_eq]
  refine run_gBuild_of uu24 zr24 pl24 ?_ w
  show Instr.fill _ (GConf.enc default).toArray [(0, (.int .i64 v0)), (1, (.int .i64 v1))] = _
  rw [fs24_0, fs24_1]; rfl
/-! ### gavel/ledger.Ledger -/
structure GLedgerLedger where
  epoch : Int
  last : Int
  l : Hdr
  names : Option Nat
  done : Int
deriving DecidableEq
instance : Inhabited GLedgerLedger := ⟨⟨0, 0, default, none, 0⟩⟩
def GLedgerLedger.enc (x : GLedgerLedger) : List Value := [(.int .i64 x.epoch)] ++ ([(.int .u64 x.last)] ++ ([(x.l.val)] ++ ([(.map x.names)] ++ ([(.int .i64 x.done)]))))
theorem GLedgerLedger.enc_len (x : GLedgerLedger) : x.enc.length = 5 := by simp [GLedgerLedger.enc]
theorem GLedgerLedger.enc_one (x : GLedgerLedger) : ∀ u ∈ x.enc, u.oneCell' = true := by
  intro u hu
  simp only [GLedgerLedger.enc, List.mem_append, List.mem_singleton] at hu
  rcases hu with hu | hu | hu | hu | hu
  · subst hu; rfl
  · subst hu; rfl
  · subst hu; rfl
  · subst hu; rfl
  · subst hu; rfl
theorem GLedgerLedger.enc_inj (x y : GLedgerLedger) (h : x.enc = y.enc) : x = y := by
  obtain ⟨a0, a1, a2, a3, a4⟩ := x
  obtain ⟨b0, b1, b2, b3, b4⟩ := y
  simp only [GLedgerLedger.enc] at h
  obtain ⟨p0, q0⟩ := List.append_inj h (rfl)
  have e0 : a0 = b0 := by have := List.head_eq_of_cons_eq p0; injection this
  obtain ⟨p1, q1⟩ := List.append_inj q0 (rfl)
  have e1 : a1 = b1 := by have := List.head_eq_of_cons_eq p1; injection this
  obtain ⟨p2, q2⟩ := List.append_inj q1 (rfl)
  have e2 : a2 = b2 := Enc.inj (α := Hdr) _ _ p2
  obtain ⟨p3, q3⟩ := List.append_inj q2 (rfl)
  have e3 : a3 = b3 := by have := List.head_eq_of_cons_eq p3; injection this
  have e4 : a4 = b4 := by have := List.head_eq_of_cons_eq q3; injection this
  rw [e0, e1, e2, e3, e4]
instance : Enc GLedgerLedger where
  n := 5
  enc := GLedgerLedger.enc
  pos := by omega
  len := GLedgerLedger.enc_len
  one := GLedgerLedger.enc_one
  inj := GLedgerLedger.enc_inj
@[go_sem] theorem GLedgerLedger.n_eq : Enc.n GLedgerLedger = 5 := rfl
@[irreducible] def GLedgerLedger.val (x : GLedgerLedger) : Value := .agg x.enc.toArray
theorem GLedgerLedger.val_eq (x : GLedgerLedger) : GLedgerLedger.val x = .agg (Enc.enc x).toArray := by unfold GLedgerLedger.val; rfl
theorem uu182 : Tryz.prog.underlying 182 = some (.struct (Tryz.prog.fieldsOf 182)) := by kernel_rfl
@[go_sem ↓ high] theorem xb_GLedgerLedger (ρ : Operand → Value) (dst : Option Tmp) (x : Operand) (ty : TypeId) (pos : String) (after : Array Edge) (guard : Option (Nat × Bool)) : execOp ρ { dst, op := .box 182 x, type := ty, pos, after, guard } = (do pure (.value (← gBox 182 (ρ x)))) := ex_box ..
section
variable (w : World)
@[go_sem ↓ high] theorem bx_GLedgerLedger (x : GLedgerLedger) : (gBox 182 (GLedgerLedger.val x)).run Tryz.prog w = .ok (.pointer (some ⟨w.heap.size, 0, none⟩)) (w.alloc (.cells (GLedgerLedger.enc x).toArray 182)) := by
  rw [GLedgerLedger.val_eq]; exact run_gBox _ w
end
theorem lk182_0 (x : GLedgerLedger) : x.enc[0]? = some (.int .i64 x.epoch) := by
  simp [GLedgerLedger.enc, List.getElem?_append]
theorem lk182_1 (x : GLedgerLedger) : x.enc[1]? = some (.int .u64 x.last) := by
  simp [GLedgerLedger.enc, List.getElem?_append]
theorem zr182 : zeroT Tryz.prog 182 = some (.agg (GLedgerLedger.enc default).toArray) := by kernel_rfl
theorem GLedgerLedger.at_epoch {w : World} {a : Addr} {x : GLedgerLedger} (h : get? GLedgerLedger w a = some x) : w.cell? (a.add 0) = some (.int .i64 x.epoch) := (get?_iff.1 h) _ _ (lk182_0 x)
theorem GLedgerLedger.at_last {w : World} {a : Addr} {x : GLedgerLedger} (h : get? GLedgerLedger w a = some x) : w.cell? (a.add 1) = some (.int .u64 x.last) := (get?_iff.1 h) _ _ (lk182_1 x)
@[go_sem] theorem nw182 (w : World) (n : Nat) (x : GLedgerLedger) (hn : n = w.heap.size) : get? GLedgerLedger (w.alloc (.cells (GLedgerLedger.enc x).toArray 182)) ⟨n, 0, none⟩ = some x := by
  subst hn; exact get?_new 182 x
theorem pl182 : ((Tryz.prog.fieldsOf 182).toList.mapM fun f => (Tryz.prog.info? f.type).map fun i => (f.offset, i.size)) = some [(0, 1), (1, 1), (2, 1), (3, 1), (4, 1)] := by kernel_rfl
theorem fs182_3 (x : GLedgerLedger) (v : Option Nat) (rest : List (Nat × Value)) : Instr.fill (fun i => ([(0, 1), (1, 1), (2, 1), (3, 1), (4, 1)] : List (Nat × Nat))[i]?) x.enc.toArray ((3, (.map v)) :: rest) = Instr.fill (fun i => ([(0, 1), (1, 1), (2, 1), (3, 1), (4, 1)] : List (Nat × Nat))[i]?) ({ x with names := v } : GLedgerLedger).enc.toArray rest := by
  have h := fill_seg [(0, 1), (1, 1), (2, 1), (3, 1), (4, 1)] 3 3 1 rfl (([] : List Value) ++ ([(.int .i64 x.epoch)] ++ ([(.int .u64 x.last)] ++ ([(x.l.val)])))) ([(.map x.names)]) ([(.int .i64 x.done)] ++ (([] : List Value))) ([(.map v)]) (.map v) rest (rfl) (by simp) (by simp) (by simp)
  have e1 : x.enc = (([] : List Value) ++ ([(.int .i64 x.epoch)] ++ ([(.int .u64 x.last)] ++ ([(x.l.val)])))) ++ ([(.map x.names)] ++ ([(.int .i64 x.done)] ++ (([] : List Value)))) := by simp only [GLedgerLedger.enc, List.nil_append, List.append_assoc, List.append_nil]
  have e2 : ({ x with names := v } : GLedgerLedger).enc = (([] : List Value) ++ ([(.int .i64 x.epoch)] ++ ([(.int .u64 x.last)] ++ ([(x.l.val)])))) ++ ([(.map v)] ++ ([(.int .i64 x.done)] ++ (([] : List Value)))) := by simp only [GLedgerLedger.enc, List.nil_append, List.append_assoc, List.append_nil]
  rw [e1, e2]; exact h
@[go_sem ↓ high] theorem xd_GLedgerLedger (ρ : Operand → Value) (dst : Option Tmp) (ps : Array (Nat × Operand)) (ty : TypeId) (pos : String) (after : Array Edge) (guard : Option (Nat × Bool)) : execOp ρ { dst, op := .build 182 ps, type := ty, pos, after, guard } = (do pure (.value (← gBuild 182 (ps.map fun (i, x) => (i, ρ x))))) := ex_build ..
@[go_sem ↓ high] theorem bd182_0 (w : World) (v3 : Option Nat) : (gBuild 182 #[(3, (.map v3))]).run Tryz.prog w = .ok (GLedgerLedger.val ⟨0, 0, default, v3, 0⟩) w := by
  rw [GLedgerLedger.val_eq]
  refine run_gBuild_of uu182 zr182 pl182 ?_ w
  show Instr.fill _ (GLedgerLedger.enc default).toArray [(3, (.map v3))] = _
  rw [fs182_3]; rfl

/-! ### gavel/ledger.place -/
structure GLedgerPlace where
  e : GEntry
  status : Int
  payload : Hdr
deriving DecidableEq
instance : Inhabited GLedgerPlace := ⟨⟨default, 0, default⟩⟩
def GLedgerPlace.enc (x : GLedgerPlace) : List Value := x.e.enc ++ ([(.int .i64 x.status)] ++ ([(x.payload.val)]))
theorem GLedgerPlace.enc_len (x : GLedgerPlace) : x.enc.length = 37 := by simp [GLedgerPlace.enc, GEntry.enc_len]
theorem GLedgerPlace.enc_one (x : GLedgerPlace) : ∀ u ∈ x.enc, u.oneCell' = true := by
  intro u hu
  simp only [GLedgerPlace.enc, List.mem_append, List.mem_singleton] at hu
  rcases hu with hu | hu | hu
  · exact Enc.one (α := GEntry) _ _ hu
  · subst hu; rfl
  · subst hu; rfl
theorem GLedgerPlace.enc_inj (x y : GLedgerPlace) (h : x.enc = y.enc) : x = y := by
  obtain ⟨a0, a1, a2⟩ := x
  obtain ⟨b0, b1, b2⟩ := y
  simp only [GLedgerPlace.enc] at h
  obtain ⟨p0, q0⟩ := List.append_inj h (by simp [GEntry.enc_len])
  have e0 := Enc.inj (α := GEntry) _ _ p0
  obtain ⟨p1, q1⟩ := List.append_inj q0 (rfl)
  have e1 : a1 = b1 := by have := List.head_eq_of_cons_eq p1; injection this
  have e2 : a2 = b2 := Enc.inj (α := Hdr) _ _ q1
  rw [e0, e1, e2]
instance : Enc GLedgerPlace where
  n := 37
  enc := GLedgerPlace.enc
  pos := by omega
  len := GLedgerPlace.enc_len
  one := GLedgerPlace.enc_one
  inj := GLedgerPlace.enc_inj
@[go_sem] theorem GLedgerPlace.n_eq : Enc.n GLedgerPlace = 37 := rfl
@[irreducible] def GLedgerPlace.val (x : GLedgerPlace) : Value := .agg x.enc.toArray
section
variable (w : World)
end
/-! ### gavel/api.Batch -/
structure GBatch where
  epoch : Int
  time : Int
  promises : Hdr
  openings : Hdr
  tombs : Hdr
deriving DecidableEq
instance : Inhabited GBatch := ⟨⟨0, 0, default, default, default⟩⟩
def GBatch.enc (x : GBatch) : List Value := [(.int .i64 x.epoch)] ++ ([(.int .u64 x.time)] ++ ([(x.promises.val)] ++ ([(x.openings.val)] ++ ([(x.tombs.val)]))))
theorem GBatch.enc_len (x : GBatch) : x.enc.length = 5 := by simp [GBatch.enc]
theorem GBatch.enc_one (x : GBatch) : ∀ u ∈ x.enc, u.oneCell' = true := by
  intro u hu
  simp only [GBatch.enc, List.mem_append, List.mem_singleton] at hu
  rcases hu with hu | hu | hu | hu | hu
  · subst hu; rfl
  · subst hu; rfl
  · subst hu; rfl
  · subst hu; rfl
  · subst hu; rfl
theorem GBatch.enc_inj (x y : GBatch) (h : x.enc = y.enc) : x = y := by
  obtain ⟨a0, a1, a2, a3, a4⟩ := x
  obtain ⟨b0, b1, b2, b3, b4⟩ := y
  simp only [GBatch.enc] at h
  obtain ⟨p0, q0⟩ := List.append_inj h (rfl)
  have e0 : a0 = b0 := by have := List.head_eq_of_cons_eq p0; injection this
  obtain ⟨p1, q1⟩ := List.append_inj q0 (rfl)
  have e1 : a1 = b1 := by have := List.head_eq_of_cons_eq p1; injection this
  obtain ⟨p2, q2⟩ := List.append_inj q1 (rfl)
  have e2 : a2 = b2 := Enc.inj (α := Hdr) _ _ p2
  obtain ⟨p3, q3⟩ := List.append_inj q2 (rfl)
  have e3 : a3 = b3 := Enc.inj (α := Hdr) _ _ p3
  have e4 : a4 = b4 := Enc.inj (α := Hdr) _ _ q3
  rw [e0, e1, e2, e3, e4]
instance : Enc GBatch where
  n := 5
  enc := GBatch.enc
  pos := by omega
  len := GBatch.enc_len
  one := GBatch.enc_one
  inj := GBatch.enc_inj
@[go_sem] theorem GBatch.n_eq : Enc.n GBatch = 5 := rfl
@[irreducible] def GBatch.val (x : GBatch) : Value := .agg x.enc.toArray
theorem GBatch.val_eq (x : GBatch) : GBatch.val x = .agg (Enc.enc x).toArray := by unfold GBatch.val; rfl
@[go_sem ↓ high] theorem xl_GBatch (ρ : Operand → Value) (dst : Option Tmp) (x : Operand) (ty : TypeId) (pos : String) (after : Array Edge) (guard : Option (Nat × Bool)) : execOp ρ { dst, op := .load 54 x, type := ty, pos, after, guard } = (do pure (.value (← gLoad 54 (ρ x)))) := ex_load ..
@[go_sem ↓ high] theorem xs_GBatch (ρ : Operand → Value) (dst : Option Tmp) (x y : Operand) (ty : TypeId) (pos : String) (after : Array Edge) (guard : Option (Nat × Bool)) : execOp ρ { dst, op := .store 54 x y, type := ty, pos, after, guard } = (do gStore 54 (ρ x) (ρ y); pure .skip) := ex_store ..
@[go_sem ↓ high] theorem xb_GBatch (ρ : Operand → Value) (dst : Option Tmp) (x : Operand) (ty : TypeId) (pos : String) (after : Array Edge) (guard : Option (Nat × Bool)) : execOp ρ { dst, op := .box 54 x, type := ty, pos, after, guard } = (do pure (.value (← gBox 54 (ρ x)))) := ex_box ..
@[go_sem ↓ high] theorem xa_GBatch (ρ : Operand → Value) (dst : Option Tmp) (ty : TypeId) (pos : String) (after : Array Edge) (guard : Option (Nat × Bool)) : execOp ρ { dst, op := .alloc 54, type := ty, pos, after, guard } = (do pure (.value (← gAlloc 54))) := ex_alloc ..
theorem ag54 : aggT Tryz.prog 54 = true := by kernel_rfl
theorem sz54 : sizeT Tryz.prog 54 = 5 := by kernel_rfl
section
variable (w : World)
@[go_sem ↓ high] theorem ld_GBatch (a : Addr) : (gLoad 54 (.pointer (some a))).run Tryz.prog w = ofOpt ((get? GBatch w a).map GBatch.val) w (noLoad Tryz.prog 54 a w) := by
  unfold gLoad; exact run_loadAt_opt ag54 sz54 GBatch.val GBatch.val_eq
@[go_sem ↓ high] theorem st_GBatch (a : Addr) (x : GBatch) : (gStore 54 (.pointer (some a)) (GBatch.val x)).run Tryz.prog w = okU' ((get? GBatch w a).isSome && blkFree w a.block) (World.putCells w a (GBatch.enc x)) (noStore Tryz.prog 54 (.pointer (some a)) (GBatch.val x) w) := run_gStore_any sz54 GBatch.val GBatch.val_eq w a x
@[go_sem ↓ high] theorem bx_GBatch (x : GBatch) : (gBox 54 (GBatch.val x)).run Tryz.prog w = .ok (.pointer (some ⟨w.heap.size, 0, none⟩)) (w.alloc (.cells (GBatch.enc x).toArray 54)) := by
  rw [GBatch.val_eq]; exact run_gBox _ w
end
theorem lk54_0 (x : GBatch) : x.enc[0]? = some (.int .i64 x.epoch) := by
  simp [GBatch.enc, List.getElem?_append]
theorem lk54_1 (x : GBatch) : x.enc[1]? = some (.int .u64 x.time) := by
  simp [GBatch.enc, List.getElem?_append]
theorem lk54_2 (x : GBatch) : x.enc[2]? = some (x.promises.val) := by
  simp [GBatch.enc, List.getElem?_append]
theorem lk54_3 (x : GBatch) : x.enc[3]? = some (x.openings.val) := by
  simp [GBatch.enc, List.getElem?_append]
theorem lk54_4 (x : GBatch) : x.enc[4]? = some (x.tombs.val) := by
  simp [GBatch.enc, List.getElem?_append]
theorem zr54 : zeroT Tryz.prog 54 = some (.agg (GBatch.enc default).toArray) := by kernel_rfl
@[go_sem ↓ high] theorem al_GBatch (w : World) : (gAlloc 54).run Tryz.prog w = .ok (.pointer (some ⟨w.heap.size, 0, none⟩)) (w.alloc (.cells (GBatch.enc default).toArray 54)) := run_zero_alloc zr54 w
theorem GBatch.at_epoch {w : World} {a : Addr} {x : GBatch} (h : get? GBatch w a = some x) : w.cell? (a.add 0) = some (.int .i64 x.epoch) := (get?_iff.1 h) _ _ (lk54_0 x)
theorem GBatch.at_time {w : World} {a : Addr} {x : GBatch} (h : get? GBatch w a = some x) : w.cell? (a.add 1) = some (.int .u64 x.time) := (get?_iff.1 h) _ _ (lk54_1 x)
theorem GBatch.at_promises {w : World} {a : Addr} {x : GBatch} (h : get? GBatch w a = some x) : w.cell? (a.add 2) = some (x.promises.val) := (get?_iff.1 h) _ _ (lk54_2 x)
theorem GBatch.at_openings {w : World} {a : Addr} {x : GBatch} (h : get? GBatch w a = some x) : w.cell? (a.add 3) = some (x.openings.val) := (get?_iff.1 h) _ _ (lk54_3 x)
theorem GBatch.at_tombs {w : World} {a : Addr} {x : GBatch} (h : get? GBatch w a = some x) : w.cell? (a.add 4) = some (x.tombs.val) := (get?_iff.1 h) _ _ (lk54_4 x)
/-! ### gavel/api.Sig -/
structure GSig where
  by_ : Int
  mark : Int
deriving DecidableEq
instance : Inhabited GSig := ⟨⟨0, 0⟩⟩
def GSig.enc (x : GSig) : List Value := [(.int .i64 x.by_)] ++ ([(.int .i64 x.mark)])
theorem GSig.enc_len (x : GSig) : x.enc.length = 2 := by simp [GSig.enc]
theorem GSig.enc_one (x : GSig) : ∀ u ∈ x.enc, u.oneCell' = true := by
  intro u hu
  simp only [GSig.enc, List.mem_append, List.mem_singleton] at hu
  rcases hu with hu | hu
  · subst hu; rfl
  · subst hu; rfl
theorem GSig.enc_inj (x y : GSig) (h : x.enc = y.enc) : x = y := by
  obtain ⟨a0, a1⟩ := x
  obtain ⟨b0, b1⟩ := y
  simp only [GSig.enc] at h
  obtain ⟨p0, q0⟩ := List.append_inj h (rfl)
  have e0 : a0 = b0 := by have := List.head_eq_of_cons_eq p0; injection this
  have e1 : a1 = b1 := by have := List.head_eq_of_cons_eq q0; injection this
  rw [e0, e1]
instance : Enc GSig where
  n := 2
  enc := GSig.enc
  pos := by omega
  len := GSig.enc_len
  one := GSig.enc_one
  inj := GSig.enc_inj
@[go_sem] theorem GSig.n_eq : Enc.n GSig = 2 := rfl
@[irreducible] def GSig.val (x : GSig) : Value := .agg x.enc.toArray
theorem GSig.val_eq (x : GSig) : GSig.val x = .agg (Enc.enc x).toArray := by unfold GSig.val; rfl
theorem GSig.ext_all (x y : GSig) : x = y ↔ x.by_ = y.by_ ∧ x.mark = y.mark := by
  constructor
  · intro h; cases h; simp
  · intro h; cases x; cases y; simp_all
theorem uu37 : Tryz.prog.underlying 37 = some (.struct (Tryz.prog.fieldsOf 37)) := by kernel_rfl
theorem st37 : Tryz.prog.stoodInHeld 37 = false := by kernel_rfl
theorem fl37 : fieldTO Tryz.prog 37 = [(3, 0), (3, 1)] := by kernel_rfl
theorem nb37 : noBlank Tryz.prog 37 = true := by kernel_rfl
@[go_sem ↓ high] theorem xl_GSig (ρ : Operand → Value) (dst : Option Tmp) (x : Operand) (ty : TypeId) (pos : String) (after : Array Edge) (guard : Option (Nat × Bool)) : execOp ρ { dst, op := .load 37 x, type := ty, pos, after, guard } = (do pure (.value (← gLoad 37 (ρ x)))) := ex_load ..
@[go_sem ↓ high] theorem xs_GSig (ρ : Operand → Value) (dst : Option Tmp) (x y : Operand) (ty : TypeId) (pos : String) (after : Array Edge) (guard : Option (Nat × Bool)) : execOp ρ { dst, op := .store 37 x y, type := ty, pos, after, guard } = (do gStore 37 (ρ x) (ρ y); pure .skip) := ex_store ..
@[go_sem ↓ high] theorem xa_GSig (ρ : Operand → Value) (dst : Option Tmp) (ty : TypeId) (pos : String) (after : Array Edge) (guard : Option (Nat × Bool)) : execOp ρ { dst, op := .alloc 37, type := ty, pos, after, guard } = (do pure (.value (← gAlloc 37))) := ex_alloc ..
theorem ag37 : aggT Tryz.prog 37 = true := by kernel_rfl
theorem sz37 : sizeT Tryz.prog 37 = 2 := by kernel_rfl
section
variable (w : World)
@[go_sem ↓ high] theorem ld_GSig (a : Addr) : (gLoad 37 (.pointer (some a))).run Tryz.prog w = ofOpt ((get? GSig w a).map GSig.val) w (noLoad Tryz.prog 37 a w) := by
  unfold gLoad; exact run_loadAt_opt ag37 sz37 GSig.val GSig.val_eq
@[go_sem ↓ high] theorem st_GSig (a : Addr) (x : GSig) : (gStore 37 (.pointer (some a)) (GSig.val x)).run Tryz.prog w = okU' ((get? GSig w a).isSome && blkFree w a.block) (World.putCells w a (GSig.enc x)) (noStore Tryz.prog 37 (.pointer (some a)) (GSig.val x) w) := run_gStore_any sz37 GSig.val GSig.val_eq w a x
end
theorem lk37_0 (x : GSig) : x.enc[0]? = some (.int .i64 x.by_) := by
  simp [GSig.enc, List.getElem?_append]
theorem pt37_0 (w : World) (x : GSig) : (part 3 x.enc.toArray 0).run Tryz.prog w = .ok (.int .i64 x.by_) w := run_part_one na3 us3 (lk37_0 x)
theorem lk37_1 (x : GSig) : x.enc[1]? = some (.int .i64 x.mark) := by
  simp [GSig.enc, List.getElem?_append]
theorem pt37_1 (w : World) (x : GSig) : (part 3 x.enc.toArray 1).run Tryz.prog w = .ok (.int .i64 x.mark) w := run_part_one na3 us3 (lk37_1 x)
theorem zr37 : zeroT Tryz.prog 37 = some (.agg (GSig.enc default).toArray) := by kernel_rfl
@[go_sem ↓ high] theorem al_GSig (w : World) : (gAlloc 37).run Tryz.prog w = .ok (.pointer (some ⟨w.heap.size, 0, none⟩)) (w.alloc (.cells (GSig.enc default).toArray 37)) := run_zero_alloc zr37 w
theorem pl37 : ((Tryz.prog.fieldsOf 37).toList.mapM fun f => (Tryz.prog.info? f.type).map fun i => (f.offset, i.size)) = some [(0, 1), (1, 1)] := by kernel_rfl
theorem fs37_0 (x : GSig) (v : Int) (rest : List (Nat × Value)) : Instr.fill (fun i => ([(0, 1), (1, 1)] : List (Nat × Nat))[i]?) x.enc.toArray ((0, (.int .i64 v)) :: rest) = Instr.fill (fun i => ([(0, 1), (1, 1)] : List (Nat × Nat))[i]?) ({ x with by_ := v } : GSig).enc.toArray rest := by
  have h := fill_seg [(0, 1), (1, 1)] 0 0 1 rfl (([] : List Value)) ([(.int .i64 x.by_)]) ([(.int .i64 x.mark)] ++ (([] : List Value))) ([(.int .i64 v)]) (.int .i64 v) rest (rfl) (by simp) (by simp) (by simp)
  have e1 : x.enc = (([] : List Value)) ++ ([(.int .i64 x.by_)] ++ ([(.int .i64 x.mark)] ++ (([] : List Value)))) := by simp only [GSig.enc, List.nil_append, List.append_assoc, List.append_nil]
  have e2 : ({ x with by_ := v } : GSig).enc = (([] : List Value)) ++ ([(.int .i64 v)] ++ ([(.int .i64 x.mark)] ++ (([] : List Value)))) := by simp only [GSig.enc, List.nil_append, List.append_assoc, List.append_nil]
  rw [e1, e2]; exact h
theorem fs37_1 (x : GSig) (v : Int) (rest : List (Nat × Value)) : Instr.fill (fun i => ([(0, 1), (1, 1)] : List (Nat × Nat))[i]?) x.enc.toArray ((1, (.int .i64 v)) :: rest) = Instr.fill (fun i => ([(0, 1), (1, 1)] : List (Nat × Nat))[i]?) ({ x with mark := v } : GSig).enc.toArray rest := by
  have h := fill_seg [(0, 1), (1, 1)] 1 1 1 rfl (([] : List Value) ++ ([(.int .i64 x.by_)])) ([(.int .i64 x.mark)]) (([] : List Value)) ([(.int .i64 v)]) (.int .i64 v) rest (rfl) (by simp) (by simp) (by simp)
  have e1 : x.enc = (([] : List Value) ++ ([(.int .i64 x.by_)])) ++ ([(.int .i64 x.mark)] ++ (([] : List Value))) := by simp only [GSig.enc, List.nil_append, List.append_assoc, List.append_nil]
  have e2 : ({ x with mark := v } : GSig).enc = (([] : List Value) ++ ([(.int .i64 x.by_)])) ++ ([(.int .i64 v)] ++ (([] : List Value))) := by simp only [GSig.enc, List.nil_append, List.append_assoc, List.append_nil]
  rw [e1, e2]; exact h
@[go_sem ↓ high] theorem xd_GSig (ρ : Operand → Value) (dst : Option Tmp) (ps : Array (Nat × Operand)) (ty : TypeId) (pos : String) (after : Array Edge) (guard : Option (Nat × Bool)) : execOp ρ { dst, op := .build 37 ps, type := ty, pos, after, guard } = (do pure (.value (← gBuild 37 (ps.map fun (i, x) => (i, ρ x))))) := ex_build ..
@[go_sem ↓ high] theorem bd37_0 (w : World) (v0 : Int) (v1 : Int) : (gBuild 37 #[(0, (.int .i64 v0)), (1, (.int .i64 v1))]).run Tryz.prog w = .ok (GSig.val ⟨v0, v1⟩) w := by
  rw [GSig.val_eq]
  refine run_gBuild_of uu37 zr37 pl37 ?_ w
  show Instr.fill _ (GSig.enc default).toArray [(0, (.int .i64 v0)), (1, (.int .i64 v1))] = _
  rw [fs37_0, fs37_1]; rfl
theorem eq_GSig (w : World) (d : Nat) (x y : GSig) : (Op.equalIn (d + 2) 37 (GSig.val x) (GSig.val y)).run Tryz.prog w = .ok (decide (x = y)) w := by
  have q0 : ∀ a b, (Op.equalIn (d + 1) 3 (.int .i64 a) (.int .i64 b)).run Tryz.prog w = .ok (decide (a = b)) w := fun a b => by rw [run_equalIn_int w (d + 0) 3 .i64 .i64 a b uk3]; congr 1
  have q1 : ∀ a b, (Op.equalIn (d + 1) 3 (.int .i64 a) (.int .i64 b)).run Tryz.prog w = .ok (decide (a = b)) w := fun a b => by rw [run_equalIn_int w (d + 0) 3 .i64 .i64 a b uk3]; congr 1
  have h := run_equalIn_fields (d + 1) x.enc.toArray y.enc.toArray w uu37 st37 nb37
  rw [fl37] at h
  unfold GSig.val
  refine h.trans ?_
  clear h
  simp only [eqFs, Sem.run_bind, pt37_0, pt37_1, q0, q1, Result.andThen_ok, Sem.run_ite, Sem.run_pure]
  have he : decide (x = y) = (decide (x.by_ = y.by_) && (decide (x.mark = y.mark))) := by
    rw [Bool.eq_iff_iff]; simp only [Bool.and_eq_true, decide_eq_true_eq]; exact GSig.ext_all x y
  rw [he]
  generalize decide (x.by_ = y.by_) = c0; generalize decide (x.mark = y.mark) = c1
  cases c0 <;> cases c1 <;> simp
@[go_sem ↓ high] theorem xq_GSig (ρ : Operand → Value) (dst : Option Tmp) (x y : Operand) (ty yt : TypeId) (pos : String) (after : Array Edge) (guard : Option (Nat × Bool)) : execOp ρ { dst, op := .binOp .eql 37 x y yt, type := ty, pos, after, guard } = (do pure (.value (← gBin .eql 37 x y (ρ x) (ρ y)))) := ex_eql ..
theorem eg_GSig : Tryz.prog.eqGuardType Tryz.prog.depth 37 = false := by kernel_rfl
@[go_sem ↓ high] theorem eql_GSig (w : World) (ox oy : Operand) (x y : GSig) : (gBin .eql 37 ox oy (GSig.val x) (GSig.val y)).run Tryz.prog w = .ok (.bool (decide (x = y))) w := by
  have h2 := eq_GSig w 9998 x y
  rw [GSig.val_eq, GSig.val_eq] at h2 ⊢
  have h := run_eqGuard_agg (P := Tryz.prog) w .eql 37 ox oy (Enc.enc x).toArray (Enc.enc y).toArray eg_GSig
  unfold gBin
  simp only [Sem.run_bind, h, Result.andThen_ok, run_eql_struct, h2]
/-! ### gavel/api.Promise -/
structure GPromise where
  replica : Int
  epoch : Int
  floor : Int
  certs : Hdr
  sig : GSig
deriving DecidableEq
instance : Inhabited GPromise := ⟨⟨0, 0, 0, default, default⟩⟩
def GPromise.enc (x : GPromise) : List Value := [(.int .i64 x.replica)] ++ ([(.int .i64 x.epoch)] ++ ([(.int .u64 x.floor)] ++ ([(x.certs.val)] ++ (x.sig.enc))))
theorem GPromise.enc_len (x : GPromise) : x.enc.length = 6 := by simp [GPromise.enc, GSig.enc_len]
theorem GPromise.enc_one (x : GPromise) : ∀ u ∈ x.enc, u.oneCell' = true := by
  intro u hu
  simp only [GPromise.enc, List.mem_append, List.mem_singleton] at hu
  rcases hu with hu | hu | hu | hu | hu
  · subst hu; rfl
  · subst hu; rfl
  · subst hu; rfl
  · subst hu; rfl
  · exact Enc.one (α := GSig) _ _ hu
theorem GPromise.enc_inj (x y : GPromise) (h : x.enc = y.enc) : x = y := by
  obtain ⟨a0, a1, a2, a3, a4⟩ := x
  obtain ⟨b0, b1, b2, b3, b4⟩ := y
  simp only [GPromise.enc] at h
  obtain ⟨p0, q0⟩ := List.append_inj h (rfl)
  have e0 : a0 = b0 := by have := List.head_eq_of_cons_eq p0; injection this
  obtain ⟨p1, q1⟩ := List.append_inj q0 (rfl)
  have e1 : a1 = b1 := by have := List.head_eq_of_cons_eq p1; injection this
  obtain ⟨p2, q2⟩ := List.append_inj q1 (rfl)
  have e2 : a2 = b2 := by have := List.head_eq_of_cons_eq p2; injection this
  obtain ⟨p3, q3⟩ := List.append_inj q2 (rfl)
  have e3 : a3 = b3 := Enc.inj (α := Hdr) _ _ p3
  have e4 := Enc.inj (α := GSig) _ _ q3
  rw [e0, e1, e2, e3, e4]
instance : Enc GPromise where
  n := 6
  enc := GPromise.enc
  pos := by omega
  len := GPromise.enc_len
  one := GPromise.enc_one
  inj := GPromise.enc_inj
@[go_sem] theorem GPromise.n_eq : Enc.n GPromise = 6 := rfl
@[irreducible] def GPromise.val (x : GPromise) : Value := .agg x.enc.toArray
theorem GPromise.val_eq (x : GPromise) : GPromise.val x = .agg (Enc.enc x).toArray := by unfold GPromise.val; rfl
theorem uu49 : Tryz.prog.underlying 49 = some (.struct (Tryz.prog.fieldsOf 49)) := by kernel_rfl
@[go_sem ↓ high] theorem xl_GPromise (ρ : Operand → Value) (dst : Option Tmp) (x : Operand) (ty : TypeId) (pos : String) (after : Array Edge) (guard : Option (Nat × Bool)) : execOp ρ { dst, op := .load 49 x, type := ty, pos, after, guard } = (do pure (.value (← gLoad 49 (ρ x)))) := ex_load ..
@[go_sem ↓ high] theorem xs_GPromise (ρ : Operand → Value) (dst : Option Tmp) (x y : Operand) (ty : TypeId) (pos : String) (after : Array Edge) (guard : Option (Nat × Bool)) : execOp ρ { dst, op := .store 49 x y, type := ty, pos, after, guard } = (do gStore 49 (ρ x) (ρ y); pure .skip) := ex_store ..
@[go_sem ↓ high] theorem xb_GPromise (ρ : Operand → Value) (dst : Option Tmp) (x : Operand) (ty : TypeId) (pos : String) (after : Array Edge) (guard : Option (Nat × Bool)) : execOp ρ { dst, op := .box 49 x, type := ty, pos, after, guard } = (do pure (.value (← gBox 49 (ρ x)))) := ex_box ..
@[go_sem ↓ high] theorem xa_GPromise (ρ : Operand → Value) (dst : Option Tmp) (ty : TypeId) (pos : String) (after : Array Edge) (guard : Option (Nat × Bool)) : execOp ρ { dst, op := .alloc 49, type := ty, pos, after, guard } = (do pure (.value (← gAlloc 49))) := ex_alloc ..
theorem ag49 : aggT Tryz.prog 49 = true := by kernel_rfl
theorem sz49 : sizeT Tryz.prog 49 = 6 := by kernel_rfl
section
variable (w : World)
@[go_sem ↓ high] theorem ld_GPromise (a : Addr) : (gLoad 49 (.pointer (some a))).run Tryz.prog w = ofOpt ((get? GPromise w a).map GPromise.val) w (noLoad Tryz.prog 49 a w) := by
  unfold gLoad; exact run_loadAt_opt ag49 sz49 GPromise.val GPromise.val_eq
@[go_sem ↓ high] theorem st_GPromise (a : Addr) (x : GPromise) : (gStore 49 (.pointer (some a)) (GPromise.val x)).run Tryz.prog w = okU' ((get? GPromise w a).isSome && blkFree w a.block) (World.putCells w a (GPromise.enc x)) (noStore Tryz.prog 49 (.pointer (some a)) (GPromise.val x) w) := run_gStore_any sz49 GPromise.val GPromise.val_eq w a x
@[go_sem ↓ high] theorem bx_GPromise (x : GPromise) : (gBox 49 (GPromise.val x)).run Tryz.prog w = .ok (.pointer (some ⟨w.heap.size, 0, none⟩)) (w.alloc (.cells (GPromise.enc x).toArray 49)) := by
  rw [GPromise.val_eq]; exact run_gBox _ w
end
theorem lk49_0 (x : GPromise) : x.enc[0]? = some (.int .i64 x.replica) := by
  simp [GPromise.enc, List.getElem?_append]
theorem lk49_1 (x : GPromise) : x.enc[1]? = some (.int .i64 x.epoch) := by
  simp [GPromise.enc, List.getElem?_append]
theorem lk49_2 (x : GPromise) : x.enc[2]? = some (.int .u64 x.floor) := by
  simp [GPromise.enc, List.getElem?_append]
theorem lk49_3 (x : GPromise) : x.enc[3]? = some (x.certs.val) := by
  simp [GPromise.enc, List.getElem?_append]
theorem ds49_4 (x : GPromise) : (x.enc.drop 4).take 2 = x.sig.enc := by
  unfold GPromise.enc
  simp [List.drop_append, List.drop_eq_nil_of_le] <;> (exact List.take_of_length_le (by simp [GSig.enc_len]))
theorem zr49 : zeroT Tryz.prog 49 = some (.agg (GPromise.enc default).toArray) := by kernel_rfl
@[go_sem ↓ high] theorem al_GPromise (w : World) : (gAlloc 49).run Tryz.prog w = .ok (.pointer (some ⟨w.heap.size, 0, none⟩)) (w.alloc (.cells (GPromise.enc default).toArray 49)) := run_zero_alloc zr49 w
@[go_sem] theorem pc_GPromise (w : World) (n : Nat) (x z : GPromise) (hn : n = w.heap.size) : World.putCells (w.alloc (.cells (GPromise.enc z).toArray 49)) ⟨n, 0, none⟩ (GPromise.enc x) = w.alloc (.cells (GPromise.enc x).toArray 49) := putCells_top x z hn
theorem GPromise.at_replica {w : World} {a : Addr} {x : GPromise} (h : get? GPromise w a = some x) : w.cell? (a.add 0) = some (.int .i64 x.replica) := (get?_iff.1 h) _ _ (lk49_0 x)
theorem GPromise.at_epoch {w : World} {a : Addr} {x : GPromise} (h : get? GPromise w a = some x) : w.cell? (a.add 1) = some (.int .i64 x.epoch) := (get?_iff.1 h) _ _ (lk49_1 x)
theorem GPromise.at_floor {w : World} {a : Addr} {x : GPromise} (h : get? GPromise w a = some x) : w.cell? (a.add 2) = some (.int .u64 x.floor) := (get?_iff.1 h) _ _ (lk49_2 x)
theorem GPromise.at_certs {w : World} {a : Addr} {x : GPromise} (h : get? GPromise w a = some x) : w.cell? (a.add 3) = some (x.certs.val) := (get?_iff.1 h) _ _ (lk49_3 x)
theorem GPromise.at_sig {w : World} {a : Addr} {x : GPromise} (h : get? GPromise w a = some x) : get? GSig w (a.add 4) = some x.sig := by
  rw [get?_iff] at h ⊢
  refine h.sub 4 fun j v hv => ?_
  have hd := ds49_4 x
  have hj : j < 2 := by have := (List.getElem?_eq_some_iff.1 hv).1; rwa [Enc.len] at this
  show x.enc[4 + j]? = some v
  rw [← List.getElem?_drop, ← List.getElem?_take_of_lt hj, hd]; exact hv
@[go_sem] theorem nw49 (w : World) (n : Nat) (x : GPromise) (hn : n = w.heap.size) : get? GPromise (w.alloc (.cells (GPromise.enc x).toArray 49)) ⟨n, 0, none⟩ = some x := by
  subst hn; exact get?_new 49 x
theorem pl49 : ((Tryz.prog.fieldsOf 49).toList.mapM fun f => (Tryz.prog.info? f.type).map fun i => (f.offset, i.size)) = some [(0, 1), (1, 1), (2, 1), (3, 1), (4, 2)] := by kernel_rfl
theorem fs49_0 (x : GPromise) (v : Int) (rest : List (Nat × Value)) : Instr.fill (fun i => ([(0, 1), (1, 1), (2, 1), (3, 1), (4, 2)] : List (Nat × Nat))[i]?) x.enc.toArray ((0, (.int .i64 v)) :: rest) = Instr.fill (fun i => ([(0, 1), (1, 1), (2, 1), (3, 1), (4, 2)] : List (Nat × Nat))[i]?) ({ x with replica := v } : GPromise).enc.toArray rest := by
  have h := fill_seg [(0, 1), (1, 1), (2, 1), (3, 1), (4, 2)] 0 0 1 rfl (([] : List Value)) ([(.int .i64 x.replica)]) ([(.int .i64 x.epoch)] ++ ([(.int .u64 x.floor)] ++ ([(x.certs.val)] ++ (x.sig.enc ++ (([] : List Value)))))) ([(.int .i64 v)]) (.int .i64 v) rest (rfl) (by simp [GSig.enc_len]) (by simp [GSig.enc_len]) (by simp [GSig.enc_len])
  have e1 : x.enc = (([] : List Value)) ++ ([(.int .i64 x.replica)] ++ ([(.int .i64 x.epoch)] ++ ([(.int .u64 x.floor)] ++ ([(x.certs.val)] ++ (x.sig.enc ++ (([] : List Value))))))) := by simp only [GPromise.enc, List.nil_append, List.append_assoc, List.append_nil]
  have e2 : ({ x with replica := v } : GPromise).enc = (([] : List Value)) ++ ([(.int .i64 v)] ++ ([(.int .i64 x.epoch)] ++ ([(.int .u64 x.floor)] ++ ([(x.certs.val)] ++ (x.sig.enc ++ (([] : List Value))))))) := by simp only [GPromise.enc, List.nil_append, List.append_assoc, List.append_nil]
  rw [e1, e2]; exact h
theorem fs49_1 (x : GPromise) (v : Int) (rest : List (Nat × Value)) : Instr.fill (fun i => ([(0, 1), (1, 1), (2, 1), (3, 1), (4, 2)] : List (Nat × Nat))[i]?) x.enc.toArray ((1, (.int .i64 v)) :: rest) = Instr.fill (fun i => ([(0, 1), (1, 1), (2, 1), (3, 1), (4, 2)] : List (Nat × Nat))[i]?) ({ x with epoch := v } : GPromise).enc.toArray rest := by
  have h := fill_seg [(0, 1), (1, 1), (2, 1), (3, 1), (4, 2)] 1 1 1 rfl (([] : List Value) ++ ([(.int .i64 x.replica)])) ([(.int .i64 x.epoch)]) ([(.int .u64 x.floor)] ++ ([(x.certs.val)] ++ (x.sig.enc ++ (([] : List Value))))) ([(.int .i64 v)]) (.int .i64 v) rest (rfl) (by simp [GSig.enc_len]) (by simp [GSig.enc_len]) (by simp [GSig.enc_len])
  have e1 : x.enc = (([] : List Value) ++ ([(.int .i64 x.replica)])) ++ ([(.int .i64 x.epoch)] ++ ([(.int .u64 x.floor)] ++ ([(x.certs.val)] ++ (x.sig.enc ++ (([] : List Value)))))) := by simp only [GPromise.enc, List.nil_append, List.append_assoc, List.append_nil]
  have e2 : ({ x with epoch := v } : GPromise).enc = (([] : List Value) ++ ([(.int .i64 x.replica)])) ++ ([(.int .i64 v)] ++ ([(.int .u64 x.floor)] ++ ([(x.certs.val)] ++ (x.sig.enc ++ (([] : List Value)))))) := by simp only [GPromise.enc, List.nil_append, List.append_assoc, List.append_nil]
  rw [e1, e2]; exact h
theorem fs49_2 (x : GPromise) (v : Int) (rest : List (Nat × Value)) : Instr.fill (fun i => ([(0, 1), (1, 1), (2, 1), (3, 1), (4, 2)] : List (Nat × Nat))[i]?) x.enc.toArray ((2, (.int .u64 v)) :: rest) = Instr.fill (fun i => ([(0, 1), (1, 1), (2, 1), (3, 1), (4, 2)] : List (Nat × Nat))[i]?) ({ x with floor := v } : GPromise).enc.toArray rest := by
  have h := fill_seg [(0, 1), (1, 1), (2, 1), (3, 1), (4, 2)] 2 2 1 rfl (([] : List Value) ++ ([(.int .i64 x.replica)] ++ ([(.int .i64 x.epoch)]))) ([(.int .u64 x.floor)]) ([(x.certs.val)] ++ (x.sig.enc ++ (([] : List Value)))) ([(.int .u64 v)]) (.int .u64 v) rest (rfl) (by simp [GSig.enc_len]) (by simp [GSig.enc_len]) (by simp [GSig.enc_len])
  have e1 : x.enc = (([] : List Value) ++ ([(.int .i64 x.replica)] ++ ([(.int .i64 x.epoch)]))) ++ ([(.int .u64 x.floor)] ++ ([(x.certs.val)] ++ (x.sig.enc ++ (([] : List Value))))) := by simp only [GPromise.enc, List.nil_append, List.append_assoc, List.append_nil]
  have e2 : ({ x with floor := v } : GPromise).enc = (([] : List Value) ++ ([(.int .i64 x.replica)] ++ ([(.int .i64 x.epoch)]))) ++ ([(.int .u64 v)] ++ ([(x.certs.val)] ++ (x.sig.enc ++ (([] : List Value))))) := by simp only [GPromise.enc, List.nil_append, List.append_assoc, List.append_nil]
  rw [e1, e2]; exact h
@[go_sem ↓ high] theorem xd_GPromise (ρ : Operand → Value) (dst : Option Tmp) (ps : Array (Nat × Operand)) (ty : TypeId) (pos : String) (after : Array Edge) (guard : Option (Nat × Bool)) : execOp ρ { dst, op := .build 49 ps, type := ty, pos, after, guard } = (do pure (.value (← gBuild 49 (ps.map fun (i, x) => (i, ρ x))))) := ex_build ..
@[go_sem ↓ high] theorem bd49_0 (w : World) (v0 : Int) (v1 : Int) (v2 : Int) : (gBuild 49 #[(0, (.int .i64 v0)), (1, (.int .i64 v1)), (2, (.int .u64 v2))]).run Tryz.prog w = .ok (GPromise.val ⟨v0, v1, v2, default, default⟩) w := by
  rw [GPromise.val_eq]
  refine run_gBuild_of uu49 zr49 pl49 ?_ w
  show Instr.fill _ (GPromise.enc default).toArray [(0, (.int .i64 v0)), (1, (.int .i64 v1)), (2, (.int .u64 v2))] = _
  rw [fs49_0, fs49_1, fs49_2]; rfl

/-! ### gavel/api.Opening -/
structure GOpening where
  index : Int
  payload : Hdr
  nonce : GHash
deriving DecidableEq
instance : Inhabited GOpening := ⟨⟨0, default, default⟩⟩
def GOpening.enc (x : GOpening) : List Value := [(.int .i64 x.index)] ++ ([(x.payload.val)] ++ (x.nonce.enc))
theorem GOpening.enc_len (x : GOpening) : x.enc.length = 34 := by simp [GOpening.enc, GHash.enc_len]
theorem GOpening.enc_one (x : GOpening) : ∀ u ∈ x.enc, u.oneCell' = true := by
  intro u hu
  simp only [GOpening.enc, List.mem_append, List.mem_singleton] at hu
  rcases hu with hu | hu | hu
  · subst hu; rfl
  · subst hu; rfl
  · exact Enc.one (α := GHash) _ _ hu
theorem GOpening.enc_inj (x y : GOpening) (h : x.enc = y.enc) : x = y := by
  obtain ⟨a0, a1, a2⟩ := x
  obtain ⟨b0, b1, b2⟩ := y
  simp only [GOpening.enc] at h
  obtain ⟨p0, q0⟩ := List.append_inj h (rfl)
  have e0 : a0 = b0 := by have := List.head_eq_of_cons_eq p0; injection this
  obtain ⟨p1, q1⟩ := List.append_inj q0 (rfl)
  have e1 : a1 = b1 := Enc.inj (α := Hdr) _ _ p1
  have e2 := Enc.inj (α := GHash) _ _ q1
  rw [e0, e1, e2]
instance : Enc GOpening where
  n := 34
  enc := GOpening.enc
  pos := by omega
  len := GOpening.enc_len
  one := GOpening.enc_one
  inj := GOpening.enc_inj
@[go_sem] theorem GOpening.n_eq : Enc.n GOpening = 34 := rfl
@[irreducible] def GOpening.val (x : GOpening) : Value := .agg x.enc.toArray
theorem GOpening.val_eq (x : GOpening) : GOpening.val x = .agg (Enc.enc x).toArray := by unfold GOpening.val; rfl
@[go_sem ↓ high] theorem xl_GOpening (ρ : Operand → Value) (dst : Option Tmp) (x : Operand) (ty : TypeId) (pos : String) (after : Array Edge) (guard : Option (Nat × Bool)) : execOp ρ { dst, op := .load 63 x, type := ty, pos, after, guard } = (do pure (.value (← gLoad 63 (ρ x)))) := ex_load ..
@[go_sem ↓ high] theorem xs_GOpening (ρ : Operand → Value) (dst : Option Tmp) (x y : Operand) (ty : TypeId) (pos : String) (after : Array Edge) (guard : Option (Nat × Bool)) : execOp ρ { dst, op := .store 63 x y, type := ty, pos, after, guard } = (do gStore 63 (ρ x) (ρ y); pure .skip) := ex_store ..
@[go_sem ↓ high] theorem xb_GOpening (ρ : Operand → Value) (dst : Option Tmp) (x : Operand) (ty : TypeId) (pos : String) (after : Array Edge) (guard : Option (Nat × Bool)) : execOp ρ { dst, op := .box 63 x, type := ty, pos, after, guard } = (do pure (.value (← gBox 63 (ρ x)))) := ex_box ..
@[go_sem ↓ high] theorem xa_GOpening (ρ : Operand → Value) (dst : Option Tmp) (ty : TypeId) (pos : String) (after : Array Edge) (guard : Option (Nat × Bool)) : execOp ρ { dst, op := .alloc 63, type := ty, pos, after, guard } = (do pure (.value (← gAlloc 63))) := ex_alloc ..
theorem ag63 : aggT Tryz.prog 63 = true := by kernel_rfl
theorem sz63 : sizeT Tryz.prog 63 = 34 := by kernel_rfl
section
variable (w : World)
@[go_sem ↓ high] theorem ld_GOpening (a : Addr) : (gLoad 63 (.pointer (some a))).run Tryz.prog w = ofOpt ((get? GOpening w a).map GOpening.val) w (noLoad Tryz.prog 63 a w) := by
  unfold gLoad; exact run_loadAt_opt ag63 sz63 GOpening.val GOpening.val_eq
@[go_sem ↓ high] theorem st_GOpening (a : Addr) (x : GOpening) : (gStore 63 (.pointer (some a)) (GOpening.val x)).run Tryz.prog w = okU' ((get? GOpening w a).isSome && blkFree w a.block) (World.putCells w a (GOpening.enc x)) (noStore Tryz.prog 63 (.pointer (some a)) (GOpening.val x) w) := run_gStore_any sz63 GOpening.val GOpening.val_eq w a x
@[go_sem ↓ high] theorem bx_GOpening (x : GOpening) : (gBox 63 (GOpening.val x)).run Tryz.prog w = .ok (.pointer (some ⟨w.heap.size, 0, none⟩)) (w.alloc (.cells (GOpening.enc x).toArray 63)) := by
  rw [GOpening.val_eq]; exact run_gBox _ w
end
theorem lk63_0 (x : GOpening) : x.enc[0]? = some (.int .i64 x.index) := by
  simp [GOpening.enc, List.getElem?_append]
theorem lk63_1 (x : GOpening) : x.enc[1]? = some (x.payload.val) := by
  simp [GOpening.enc, List.getElem?_append]
theorem ds63_2 (x : GOpening) : (x.enc.drop 2).take 32 = x.nonce.enc := by
  unfold GOpening.enc
  simp [List.drop_append, List.drop_eq_nil_of_le] <;> (exact List.take_of_length_le (by simp [GHash.enc_len]))
theorem zr63 : zeroT Tryz.prog 63 = some (.agg (GOpening.enc default).toArray) := by kernel_rfl
@[go_sem ↓ high] theorem al_GOpening (w : World) : (gAlloc 63).run Tryz.prog w = .ok (.pointer (some ⟨w.heap.size, 0, none⟩)) (w.alloc (.cells (GOpening.enc default).toArray 63)) := run_zero_alloc zr63 w
theorem GOpening.at_index {w : World} {a : Addr} {x : GOpening} (h : get? GOpening w a = some x) : w.cell? (a.add 0) = some (.int .i64 x.index) := (get?_iff.1 h) _ _ (lk63_0 x)
theorem GOpening.at_payload {w : World} {a : Addr} {x : GOpening} (h : get? GOpening w a = some x) : w.cell? (a.add 1) = some (x.payload.val) := (get?_iff.1 h) _ _ (lk63_1 x)
theorem GOpening.at_nonce {w : World} {a : Addr} {x : GOpening} (h : get? GOpening w a = some x) : get? GHash w (a.add 2) = some x.nonce := by
  rw [get?_iff] at h ⊢
  refine h.sub 2 fun j v hv => ?_
  have hd := ds63_2 x
  have hj : j < 32 := by have := (List.getElem?_eq_some_iff.1 hv).1; rwa [Enc.len] at this
  show x.enc[2 + j]? = some v
  rw [← List.getElem?_drop, ← List.getElem?_take_of_lt hj, hd]; exact hv
/-! ### gavel/api.Tomb -/
structure GTomb where
  index : Int
  denies : Hdr
deriving DecidableEq
instance : Inhabited GTomb := ⟨⟨0, default⟩⟩
def GTomb.enc (x : GTomb) : List Value := [(.int .i64 x.index)] ++ ([(x.denies.val)])
theorem GTomb.enc_len (x : GTomb) : x.enc.length = 2 := by simp [GTomb.enc]
theorem GTomb.enc_one (x : GTomb) : ∀ u ∈ x.enc, u.oneCell' = true := by
  intro u hu
  simp only [GTomb.enc, List.mem_append, List.mem_singleton] at hu
  rcases hu with hu | hu
  · subst hu; rfl
  · subst hu; rfl
theorem GTomb.enc_inj (x y : GTomb) (h : x.enc = y.enc) : x = y := by
  obtain ⟨a0, a1⟩ := x
  obtain ⟨b0, b1⟩ := y
  simp only [GTomb.enc] at h
  obtain ⟨p0, q0⟩ := List.append_inj h (rfl)
  have e0 : a0 = b0 := by have := List.head_eq_of_cons_eq p0; injection this
  have e1 : a1 = b1 := Enc.inj (α := Hdr) _ _ q0
  rw [e0, e1]
instance : Enc GTomb where
  n := 2
  enc := GTomb.enc
  pos := by omega
  len := GTomb.enc_len
  one := GTomb.enc_one
  inj := GTomb.enc_inj
@[go_sem] theorem GTomb.n_eq : Enc.n GTomb = 2 := rfl
@[irreducible] def GTomb.val (x : GTomb) : Value := .agg x.enc.toArray
section
variable (w : World)
end
/-! ### gavel/api.Commit -/
structure GCommit where
  name : GName
  hash : GHash
  len : Int
  sig : GSig
deriving DecidableEq
instance : Inhabited GCommit := ⟨⟨default, default, 0, default⟩⟩
def GCommit.enc (x : GCommit) : List Value := x.name.enc ++ (x.hash.enc ++ ([(.int .i64 x.len)] ++ (x.sig.enc)))
theorem GCommit.enc_len (x : GCommit) : x.enc.length = 37 := by simp [GCommit.enc, GHash.enc_len, GName.enc_len, GSig.enc_len]
theorem GCommit.enc_one (x : GCommit) : ∀ u ∈ x.enc, u.oneCell' = true := by
  intro u hu
  simp only [GCommit.enc, List.mem_append, List.mem_singleton] at hu
  rcases hu with hu | hu | hu | hu
  · exact Enc.one (α := GName) _ _ hu
  · exact Enc.one (α := GHash) _ _ hu
  · subst hu; rfl
  · exact Enc.one (α := GSig) _ _ hu
theorem GCommit.enc_inj (x y : GCommit) (h : x.enc = y.enc) : x = y := by
  obtain ⟨a0, a1, a2, a3⟩ := x
  obtain ⟨b0, b1, b2, b3⟩ := y
  simp only [GCommit.enc] at h
  obtain ⟨p0, q0⟩ := List.append_inj h (by simp [GName.enc_len])
  have e0 := Enc.inj (α := GName) _ _ p0
  obtain ⟨p1, q1⟩ := List.append_inj q0 (by simp [GHash.enc_len])
  have e1 := Enc.inj (α := GHash) _ _ p1
  obtain ⟨p2, q2⟩ := List.append_inj q1 (rfl)
  have e2 : a2 = b2 := by have := List.head_eq_of_cons_eq p2; injection this
  have e3 := Enc.inj (α := GSig) _ _ q2
  rw [e0, e1, e2, e3]
instance : Enc GCommit where
  n := 37
  enc := GCommit.enc
  pos := by omega
  len := GCommit.enc_len
  one := GCommit.enc_one
  inj := GCommit.enc_inj
@[go_sem] theorem GCommit.n_eq : Enc.n GCommit = 37 := rfl
@[irreducible] def GCommit.val (x : GCommit) : Value := .agg x.enc.toArray
theorem GCommit.val_eq (x : GCommit) : GCommit.val x = .agg (Enc.enc x).toArray := by unfold GCommit.val; rfl
theorem GCommit.ext_all (x y : GCommit) : x = y ↔ x.name = y.name ∧ x.hash = y.hash ∧ x.len = y.len ∧ x.sig = y.sig := by
  constructor
  · intro h; cases h; simp
  · intro h; cases x; cases y; simp_all
theorem uu39 : Tryz.prog.underlying 39 = some (.struct (Tryz.prog.fieldsOf 39)) := by kernel_rfl
theorem st39 : Tryz.prog.stoodInHeld 39 = false := by kernel_rfl
theorem fl39 : fieldTO Tryz.prog 39 = [(33, 0), (35, 2), (3, 34), (37, 35)] := by kernel_rfl
theorem nb39 : noBlank Tryz.prog 39 = true := by kernel_rfl
@[go_sem ↓ high] theorem xl_GCommit (ρ : Operand → Value) (dst : Option Tmp) (x : Operand) (ty : TypeId) (pos : String) (after : Array Edge) (guard : Option (Nat × Bool)) : execOp ρ { dst, op := .load 39 x, type := ty, pos, after, guard } = (do pure (.value (← gLoad 39 (ρ x)))) := ex_load ..
theorem ag39 : aggT Tryz.prog 39 = true := by kernel_rfl
theorem sz39 : sizeT Tryz.prog 39 = 37 := by kernel_rfl
section
variable (w : World)
@[go_sem ↓ high] theorem ld_GCommit (a : Addr) : (gLoad 39 (.pointer (some a))).run Tryz.prog w = ofOpt ((get? GCommit w a).map GCommit.val) w (noLoad Tryz.prog 39 a w) := by
  unfold gLoad; exact run_loadAt_opt ag39 sz39 GCommit.val GCommit.val_eq
end
theorem ds39_0 (x : GCommit) : (x.enc.drop 0).take 2 = x.name.enc := by
  unfold GCommit.enc
  simp only [List.drop_zero] <;> (rw [List.take_append_of_le_length (by simp [GName.enc_len])]; exact List.take_of_length_le (by simp [GName.enc_len]))
theorem pt39_0 (w : World) (x : GCommit) : (part 33 x.enc.toArray 0).run Tryz.prog w = .ok (x.name.val) w := by
  have h := run_part_agg (P := Tryz.prog) (w := w) (cs := x.enc) (ds := x.name.enc) (off := 0) ag33 (by rw [GName.enc_len]; exact sz33) (by simp [GName.enc_len]) (by rw [GName.enc_len]; exact ds39_0 x)
  rw [h, GName.val_eq]; rfl
theorem ds39_1 (x : GCommit) : (x.enc.drop 2).take 32 = x.hash.enc := by
  unfold GCommit.enc
  simp [List.drop_append, List.drop_eq_nil_of_le, GName.enc_len] <;> (rw [List.take_append_of_le_length (by simp [GHash.enc_len])]; exact List.take_of_length_le (by simp [GHash.enc_len]))
theorem pt39_1 (w : World) (x : GCommit) : (part 35 x.enc.toArray 2).run Tryz.prog w = .ok (x.hash.val) w := by
  have h := run_part_agg (P := Tryz.prog) (w := w) (cs := x.enc) (ds := x.hash.enc) (off := 2) ag35 (by rw [GHash.enc_len]; exact sz35) (by simp [GHash.enc_len]) (by rw [GHash.enc_len]; exact ds39_1 x)
  rw [h, GHash.val_eq]; rfl
theorem lk39_2 (x : GCommit) : x.enc[34]? = some (.int .i64 x.len) := by
  simp [GCommit.enc, List.getElem?_append, GHash.enc_len, GName.enc_len]
theorem pt39_2 (w : World) (x : GCommit) : (part 3 x.enc.toArray 34).run Tryz.prog w = .ok (.int .i64 x.len) w := run_part_one na3 us3 (lk39_2 x)
theorem ds39_3 (x : GCommit) : (x.enc.drop 35).take 2 = x.sig.enc := by
  unfold GCommit.enc
  simp [List.drop_append, List.drop_eq_nil_of_le, GHash.enc_len, GName.enc_len] <;> (exact List.take_of_length_le (by simp [GSig.enc_len]))
theorem pt39_3 (w : World) (x : GCommit) : (part 37 x.enc.toArray 35).run Tryz.prog w = .ok (x.sig.val) w := by
  have h := run_part_agg (P := Tryz.prog) (w := w) (cs := x.enc) (ds := x.sig.enc) (off := 35) ag37 (by rw [GSig.enc_len]; exact sz37) (by simp [GSig.enc_len]) (by rw [GSig.enc_len]; exact ds39_3 x)
  rw [h, GSig.val_eq]; rfl
theorem eq_GCommit (w : World) (d : Nat) (x y : GCommit) : (Op.equalIn (d + 3) 39 (GCommit.val x) (GCommit.val y)).run Tryz.prog w = .ok (decide (x = y)) w := by
  have q0 : (Op.equalIn (d + 2) 33 x.name.val y.name.val).run Tryz.prog w = .ok (decide (x.name = y.name)) w := eq_GName w (d + 0) _ _
  have q1 : (Op.equalIn (d + 2) 35 x.hash.val y.hash.val).run Tryz.prog w = .ok (decide (x.hash = y.hash)) w := eq_GHash w (d + 0) _ _
  have q2 : ∀ a b, (Op.equalIn (d + 2) 3 (.int .i64 a) (.int .i64 b)).run Tryz.prog w = .ok (decide (a = b)) w := fun a b => by rw [run_equalIn_int w (d + 1) 3 .i64 .i64 a b uk3]; congr 1
  have q3 : (Op.equalIn (d + 2) 37 x.sig.val y.sig.val).run Tryz.prog w = .ok (decide (x.sig = y.sig)) w := eq_GSig w (d + 0) _ _
  have h := run_equalIn_fields (d + 2) x.enc.toArray y.enc.toArray w uu39 st39 nb39
  rw [fl39] at h
  unfold GCommit.val
  refine h.trans ?_
  clear h
  simp only [eqFs, Sem.run_bind, pt39_0, pt39_1, pt39_2, pt39_3, q0, q1, q2, q3, Result.andThen_ok, Sem.run_ite, Sem.run_pure]
  have he : decide (x = y) = (decide (x.name = y.name) && (decide (x.hash = y.hash) && (decide (x.len = y.len) && (decide (x.sig = y.sig))))) := by
    rw [Bool.eq_iff_iff]; simp only [Bool.and_eq_true, decide_eq_true_eq]; exact GCommit.ext_all x y
  rw [he]
  generalize decide (x.name = y.name) = c0; generalize decide (x.hash = y.hash) = c1; generalize decide (x.len = y.len) = c2; generalize decide (x.sig = y.sig) = c3
  cases c0 <;> cases c1 <;> cases c2 <;> cases c3 <;> simp
@[go_sem ↓ high] theorem xq_GCommit (ρ : Operand → Value) (dst : Option Tmp) (x y : Operand) (ty yt : TypeId) (pos : String) (after : Array Edge) (guard : Option (Nat × Bool)) : execOp ρ { dst, op := .binOp .eql 39 x y yt, type := ty, pos, after, guard } = (do pure (.value (← gBin .eql 39 x y (ρ x) (ρ y)))) := ex_eql ..
theorem eg_GCommit : Tryz.prog.eqGuardType Tryz.prog.depth 39 = false := by kernel_rfl
@[go_sem ↓ high] theorem eql_GCommit (w : World) (ox oy : Operand) (x y : GCommit) : (gBin .eql 39 ox oy (GCommit.val x) (GCommit.val y)).run Tryz.prog w = .ok (.bool (decide (x = y))) w := by
  have h2 := eq_GCommit w 9997 x y
  rw [GCommit.val_eq, GCommit.val_eq] at h2 ⊢
  have h := run_eqGuard_agg (P := Tryz.prog) w .eql 39 ox oy (Enc.enc x).toArray (Enc.enc y).toArray eg_GCommit
  unfold gBin
  simp only [Sem.run_bind, h, Result.andThen_ok, run_eql_struct, h2]
/-! ### gavel/api.Cert -/
structure GCert where
  commit : GCommit
  stamps : Hdr
deriving DecidableEq
instance : Inhabited GCert := ⟨⟨default, default⟩⟩
def GCert.enc (x : GCert) : List Value := x.commit.enc ++ ([(x.stamps.val)])
theorem GCert.enc_len (x : GCert) : x.enc.length = 38 := by simp [GCert.enc, GCommit.enc_len]
theorem GCert.enc_one (x : GCert) : ∀ u ∈ x.enc, u.oneCell' = true := by
  intro u hu
  simp only [GCert.enc, List.mem_append, List.mem_singleton] at hu
  rcases hu with hu | hu
  · exact Enc.one (α := GCommit) _ _ hu
  · subst hu; rfl
theorem GCert.enc_inj (x y : GCert) (h : x.enc = y.enc) : x = y := by
  obtain ⟨a0, a1⟩ := x
  obtain ⟨b0, b1⟩ := y
  simp only [GCert.enc] at h
  obtain ⟨p0, q0⟩ := List.append_inj h (by simp [GCommit.enc_len])
  have e0 := Enc.inj (α := GCommit) _ _ p0
  have e1 : a1 = b1 := Enc.inj (α := Hdr) _ _ q0
  rw [e0, e1]
instance : Enc GCert where
  n := 38
  enc := GCert.enc
  pos := by omega
  len := GCert.enc_len
  one := GCert.enc_one
  inj := GCert.enc_inj
@[go_sem] theorem GCert.n_eq : Enc.n GCert = 38 := rfl
@[irreducible] def GCert.val (x : GCert) : Value := .agg x.enc.toArray
theorem GCert.val_eq (x : GCert) : GCert.val x = .agg (Enc.enc x).toArray := by unfold GCert.val; rfl
@[go_sem ↓ high] theorem xl_GCert (ρ : Operand → Value) (dst : Option Tmp) (x : Operand) (ty : TypeId) (pos : String) (after : Array Edge) (guard : Option (Nat × Bool)) : execOp ρ { dst, op := .load 44 x, type := ty, pos, after, guard } = (do pure (.value (← gLoad 44 (ρ x)))) := ex_load ..
@[go_sem ↓ high] theorem xs_GCert (ρ : Operand → Value) (dst : Option Tmp) (x y : Operand) (ty : TypeId) (pos : String) (after : Array Edge) (guard : Option (Nat × Bool)) : execOp ρ { dst, op := .store 44 x y, type := ty, pos, after, guard } = (do gStore 44 (ρ x) (ρ y); pure .skip) := ex_store ..
@[go_sem ↓ high] theorem xb_GCert (ρ : Operand → Value) (dst : Option Tmp) (x : Operand) (ty : TypeId) (pos : String) (after : Array Edge) (guard : Option (Nat × Bool)) : execOp ρ { dst, op := .box 44 x, type := ty, pos, after, guard } = (do pure (.value (← gBox 44 (ρ x)))) := ex_box ..
@[go_sem ↓ high] theorem xa_GCert (ρ : Operand → Value) (dst : Option Tmp) (ty : TypeId) (pos : String) (after : Array Edge) (guard : Option (Nat × Bool)) : execOp ρ { dst, op := .alloc 44, type := ty, pos, after, guard } = (do pure (.value (← gAlloc 44))) := ex_alloc ..
theorem ag44 : aggT Tryz.prog 44 = true := by kernel_rfl
theorem sz44 : sizeT Tryz.prog 44 = 38 := by kernel_rfl
section
variable (w : World)
@[go_sem ↓ high] theorem ld_GCert (a : Addr) : (gLoad 44 (.pointer (some a))).run Tryz.prog w = ofOpt ((get? GCert w a).map GCert.val) w (noLoad Tryz.prog 44 a w) := by
  unfold gLoad; exact run_loadAt_opt ag44 sz44 GCert.val GCert.val_eq
@[go_sem ↓ high] theorem st_GCert (a : Addr) (x : GCert) : (gStore 44 (.pointer (some a)) (GCert.val x)).run Tryz.prog w = okU' ((get? GCert w a).isSome && blkFree w a.block) (World.putCells w a (GCert.enc x)) (noStore Tryz.prog 44 (.pointer (some a)) (GCert.val x) w) := run_gStore_any sz44 GCert.val GCert.val_eq w a x
@[go_sem ↓ high] theorem bx_GCert (x : GCert) : (gBox 44 (GCert.val x)).run Tryz.prog w = .ok (.pointer (some ⟨w.heap.size, 0, none⟩)) (w.alloc (.cells (GCert.enc x).toArray 44)) := by
  rw [GCert.val_eq]; exact run_gBox _ w
end
theorem ds44_0 (x : GCert) : (x.enc.drop 0).take 37 = x.commit.enc := by
  unfold GCert.enc
  simp only [List.drop_zero] <;> (rw [List.take_append_of_le_length (by simp [GCommit.enc_len])]; exact List.take_of_length_le (by simp [GCommit.enc_len]))
theorem lk44_1 (x : GCert) : x.enc[37]? = some (x.stamps.val) := by
  simp [GCert.enc, List.getElem?_append, GCommit.enc_len]
theorem zr44 : zeroT Tryz.prog 44 = some (.agg (GCert.enc default).toArray) := by kernel_rfl
@[go_sem ↓ high] theorem al_GCert (w : World) : (gAlloc 44).run Tryz.prog w = .ok (.pointer (some ⟨w.heap.size, 0, none⟩)) (w.alloc (.cells (GCert.enc default).toArray 44)) := run_zero_alloc zr44 w
theorem GCert.at_commit {w : World} {a : Addr} {x : GCert} (h : get? GCert w a = some x) : get? GCommit w (a.add 0) = some x.commit := by
  rw [get?_iff] at h ⊢
  refine h.sub 0 fun j v hv => ?_
  have hd := ds44_0 x
  have hj : j < 37 := by have := (List.getElem?_eq_some_iff.1 hv).1; rwa [Enc.len] at this
  show x.enc[0 + j]? = some v
  rw [← List.getElem?_drop, ← List.getElem?_take_of_lt hj, hd]; exact hv
theorem GCert.at_stamps {w : World} {a : Addr} {x : GCert} (h : get? GCert w a = some x) : w.cell? (a.add 37) = some (x.stamps.val) := (get?_iff.1 h) _ _ (lk44_1 x)
/-! ### gavel/api.Stamp -/
structure GStamp where
  replica : Int
  name : GName
  hash : GHash
  time : Int
  sig : GSig
deriving DecidableEq
instance : Inhabited GStamp := ⟨⟨0, default, default, 0, default⟩⟩
def GStamp.enc (x : GStamp) : List Value := [(.int .i64 x.replica)] ++ (x.name.enc ++ (x.hash.enc ++ ([(.int .u64 x.time)] ++ (x.sig.enc))))
theorem GStamp.enc_len (x : GStamp) : x.enc.length = 38 := by simp [GStamp.enc, GHash.enc_len, GName.enc_len, GSig.enc_len]
theorem GStamp.enc_one (x : GStamp) : ∀ u ∈ x.enc, u.oneCell' = true := by
  intro u hu
  simp only [GStamp.enc, List.mem_append, List.mem_singleton] at hu
  rcases hu with hu | hu | hu | hu | hu
  · subst hu; rfl
  · exact Enc.one (α := GName) _ _ hu
  · exact Enc.one (α := GHash) _ _ hu
  · subst hu; rfl
  · exact Enc.one (α := GSig) _ _ hu
theorem GStamp.enc_inj (x y : GStamp) (h : x.enc = y.enc) : x = y := by
  obtain ⟨a0, a1, a2, a3, a4⟩ := x
  obtain ⟨b0, b1, b2, b3, b4⟩ := y
  simp only [GStamp.enc] at h
  obtain ⟨p0, q0⟩ := List.append_inj h (rfl)
  have e0 : a0 = b0 := by have := List.head_eq_of_cons_eq p0; injection this
  obtain ⟨p1, q1⟩ := List.append_inj q0 (by simp [GName.enc_len])
  have e1 := Enc.inj (α := GName) _ _ p1
  obtain ⟨p2, q2⟩ := List.append_inj q1 (by simp [GHash.enc_len])
  have e2 := Enc.inj (α := GHash) _ _ p2
  obtain ⟨p3, q3⟩ := List.append_inj q2 (rfl)
  have e3 : a3 = b3 := by have := List.head_eq_of_cons_eq p3; injection this
  have e4 := Enc.inj (α := GSig) _ _ q3
  rw [e0, e1, e2, e3, e4]
instance : Enc GStamp where
  n := 38
  enc := GStamp.enc
  pos := by omega
  len := GStamp.enc_len
  one := GStamp.enc_one
  inj := GStamp.enc_inj
@[go_sem] theorem GStamp.n_eq : Enc.n GStamp = 38 := rfl
@[irreducible] def GStamp.val (x : GStamp) : Value := .agg x.enc.toArray
theorem GStamp.val_eq (x : GStamp) : GStamp.val x = .agg (Enc.enc x).toArray := by unfold GStamp.val; rfl
theorem GStamp.ext_all (x y : GStamp) : x = y ↔ x.replica = y.replica ∧ x.name = y.name ∧ x.hash = y.hash ∧ x.time = y.time ∧ x.sig = y.sig := by
  constructor
  · intro h; cases h; simp
  · intro h; cases x; cases y; simp_all
theorem uu41 : Tryz.prog.underlying 41 = some (.struct (Tryz.prog.fieldsOf 41)) := by kernel_rfl
theorem st41 : Tryz.prog.stoodInHeld 41 = false := by kernel_rfl
theorem fl41 : fieldTO Tryz.prog 41 = [(3, 0), (33, 1), (35, 3), (22, 35), (37, 36)] := by kernel_rfl
theorem nb41 : noBlank Tryz.prog 41 = true := by kernel_rfl
@[go_sem ↓ high] theorem xl_GStamp (ρ : Operand → Value) (dst : Option Tmp) (x : Operand) (ty : TypeId) (pos : String) (after : Array Edge) (guard : Option (Nat × Bool)) : execOp ρ { dst, op := .load 41 x, type := ty, pos, after, guard } = (do pure (.value (← gLoad 41 (ρ x)))) := ex_load ..
theorem ag41 : aggT Tryz.prog 41 = true := by kernel_rfl
theorem sz41 : sizeT Tryz.prog 41 = 38 := by kernel_rfl
section
variable (w : World)
@[go_sem ↓ high] theorem ld_GStamp (a : Addr) : (gLoad 41 (.pointer (some a))).run Tryz.prog w = ofOpt ((get? GStamp w a).map GStamp.val) w (noLoad Tryz.prog 41 a w) := by
  unfold gLoad; exact run_loadAt_opt ag41 sz41 GStamp.val GStamp.val_eq
end
theorem lk41_0 (x : GStamp) : x.enc[0]? = some (.int .i64 x.replica) := by
  simp [GStamp.enc, List.getElem?_append]
theorem pt41_0 (w : World) (x : GStamp) : (part 3 x.enc.toArray 0).run Tryz.prog w = .ok (.int .i64 x.replica) w := run_part_one na3 us3 (lk41_0 x)
theorem ds41_1 (x : GStamp) : (x.enc.drop 1).take 2 = x.name.enc := by
  unfold GStamp.enc
  simp [List.drop_append, List.drop_eq_nil_of_le] <;> (rw [List.take_append_of_le_length (by simp [GName.enc_len])]; exact List.take_of_length_le (by simp [GName.enc_len]))
theorem pt41_1 (w : World) (x : GStamp) : (part 33 x.enc.toArray 1).run Tryz.prog w = .ok (x.name.val) w := by
  have h := run_part_agg (P := Tryz.prog) (w := w) (cs := x.enc) (ds := x.name.enc) (off := 1) ag33 (by rw [GName.enc_len]; exact sz33) (by simp [GName.enc_len]) (by rw [GName.enc_len]; exact ds41_1 x)
  rw [h, GName.val_eq]; rfl
theorem ds41_2 (x : GStamp) : (x.enc.drop 3).take 32 = x.hash.enc := by
  unfold GStamp.enc
  simp [List.drop_append, List.drop_eq_nil_of_le, GName.enc_len] <;> (rw [List.take_append_of_le_length (by simp [GHash.enc_len])]; exact List.take_of_length_le (by simp [GHash.enc_len]))
theorem pt41_2 (w : World) (x : GStamp) : (part 35 x.enc.toArray 3).run Tryz.prog w = .ok (x.hash.val) w := by
  have h := run_part_agg (P := Tryz.prog) (w := w) (cs := x.enc) (ds := x.hash.enc) (off := 3) ag35 (by rw [GHash.enc_len]; exact sz35) (by simp [GHash.enc_len]) (by rw [GHash.enc_len]; exact ds41_2 x)
  rw [h, GHash.val_eq]; rfl
theorem lk41_3 (x : GStamp) : x.enc[35]? = some (.int .u64 x.time) := by
  simp [GStamp.enc, List.getElem?_append, GHash.enc_len, GName.enc_len]
theorem pt41_3 (w : World) (x : GStamp) : (part 22 x.enc.toArray 35).run Tryz.prog w = .ok (.int .u64 x.time) w := run_part_one na22 us22 (lk41_3 x)
theorem ds41_4 (x : GStamp) : (x.enc.drop 36).take 2 = x.sig.enc := by
  unfold GStamp.enc
  simp [List.drop_append, List.drop_eq_nil_of_le, GHash.enc_len, GName.enc_len] <;> (exact List.take_of_length_le (by simp [GSig.enc_len]))
theorem pt41_4 (w : World) (x : GStamp) : (part 37 x.enc.toArray 36).run Tryz.prog w = .ok (x.sig.val) w := by
  have h := run_part_agg (P := Tryz.prog) (w := w) (cs := x.enc) (ds := x.sig.enc) (off := 36) ag37 (by rw [GSig.enc_len]; exact sz37) (by simp [GSig.enc_len]) (by rw [GSig.enc_len]; exact ds41_4 x)
  rw [h, GSig.val_eq]; rfl
theorem eq_GStamp (w : World) (d : Nat) (x y : GStamp) : (Op.equalIn (d + 3) 41 (GStamp.val x) (GStamp.val y)).run Tryz.prog w = .ok (decide (x = y)) w := by
  have q0 : ∀ a b, (Op.equalIn (d + 2) 3 (.int .i64 a) (.int .i64 b)).run Tryz.prog w = .ok (decide (a = b)) w := fun a b => by rw [run_equalIn_int w (d + 1) 3 .i64 .i64 a b uk3]; congr 1
  have q1 : (Op.equalIn (d + 2) 33 x.name.val y.name.val).run Tryz.prog w = .ok (decide (x.name = y.name)) w := eq_GName w (d + 0) _ _
  have q2 : (Op.equalIn (d + 2) 35 x.hash.val y.hash.val).run Tryz.prog w = .ok (decide (x.hash = y.hash)) w := eq_GHash w (d + 0) _ _
  have q3 : ∀ a b, (Op.equalIn (d + 2) 22 (.int .u64 a) (.int .u64 b)).run Tryz.prog w = .ok (decide (a = b)) w := fun a b => by rw [run_equalIn_int w (d + 1) 22 .u64 .u64 a b uk22]; congr 1
  have q4 : (Op.equalIn (d + 2) 37 x.sig.val y.sig.val).run Tryz.prog w = .ok (decide (x.sig = y.sig)) w := eq_GSig w (d + 0) _ _
  have h := run_equalIn_fields (d + 2) x.enc.toArray y.enc.toArray w uu41 st41 nb41
  rw [fl41] at h
  unfold GStamp.val
  refine h.trans ?_
  clear h
  simp only [eqFs, Sem.run_bind, pt41_0, pt41_1, pt41_2, pt41_3, pt41_4, q0, q1, q2, q3, q4, Result.andThen_ok, Sem.run_ite, Sem.run_pure]
  have he : decide (x = y) = (decide (x.replica = y.replica) && (decide (x.name = y.name) && (decide (x.hash = y.hash) && (decide (x.time = y.time) && (decide (x.sig = y.sig)))))) := by
    rw [Bool.eq_iff_iff]; simp only [Bool.and_eq_true, decide_eq_true_eq]; exact GStamp.ext_all x y
  rw [he]
  generalize decide (x.replica = y.replica) = c0; generalize decide (x.name = y.name) = c1; generalize decide (x.hash = y.hash) = c2; generalize decide (x.time = y.time) = c3; generalize decide (x.sig = y.sig) = c4
  cases c0 <;> cases c1 <;> cases c2 <;> cases c3 <;> cases c4 <;> simp
@[go_sem ↓ high] theorem xq_GStamp (ρ : Operand → Value) (dst : Option Tmp) (x y : Operand) (ty yt : TypeId) (pos : String) (after : Array Edge) (guard : Option (Nat × Bool)) : execOp ρ { dst, op := .binOp .eql 41 x y yt, type := ty, pos, after, guard } = (do pure (.value (← gBin .eql 41 x y (ρ x) (ρ y)))) := ex_eql ..
theorem eg_GStamp : Tryz.prog.eqGuardType Tryz.prog.depth 41 = false := by kernel_rfl
@[go_sem ↓ high] theorem eql_GStamp (w : World) (ox oy : Operand) (x y : GStamp) : (gBin .eql 41 ox oy (GStamp.val x) (GStamp.val y)).run Tryz.prog w = .ok (.bool (decide (x = y))) w := by
  have h2 := eq_GStamp w 9997 x y
  rw [GStamp.val_eq, GStamp.val_eq] at h2 ⊢
  have h := run_eqGuard_agg (P := Tryz.prog) w .eql 41 ox oy (Enc.enc x).toArray (Enc.enc y).toArray eg_GStamp
  unfold gBin
  simp only [Sem.run_bind, h, Result.andThen_ok, run_eql_struct, h2]
/-! ### gavel/api.Deny -/
structure GDeny where
  replica : Int
  index : Int
  sig : GSig
deriving DecidableEq
instance : Inhabited GDeny := ⟨⟨0, 0, default⟩⟩
def GDeny.enc (x : GDeny) : List Value := [(.int .i64 x.replica)] ++ ([(.int .i64 x.index)] ++ (x.sig.enc))
theorem GDeny.enc_len (x : GDeny) : x.enc.length = 4 := by simp [GDeny.enc, GSig.enc_len]
theorem GDeny.enc_one (x : GDeny) : ∀ u ∈ x.enc, u.oneCell' = true := by
  intro u hu
  simp only [GDeny.enc, List.mem_append, List.mem_singleton] at hu
  rcases hu with hu | hu | hu
  · subst hu; rfl
  · subst hu; rfl
  · exact Enc.one (α := GSig) _ _ hu
theorem GDeny.enc_inj (x y : GDeny) (h : x.enc = y.enc) : x = y := by
  obtain ⟨a0, a1, a2⟩ := x
  obtain ⟨b0, b1, b2⟩ := y
  simp only [GDeny.enc] at h
  obtain ⟨p0, q0⟩ := List.append_inj h (rfl)
  have e0 : a0 = b0 := by have := List.head_eq_of_cons_eq p0; injection this
  obtain ⟨p1, q1⟩ := List.append_inj q0 (rfl)
  have e1 : a1 = b1 := by have := List.head_eq_of_cons_eq p1; injection this
  have e2 := Enc.inj (α := GSig) _ _ q1
  rw [e0, e1, e2]
instance : Enc GDeny where
  n := 4
  enc := GDeny.enc
  pos := by omega
  len := GDeny.enc_len
  one := GDeny.enc_one
  inj := GDeny.enc_inj
@[go_sem] theorem GDeny.n_eq : Enc.n GDeny = 4 := rfl
@[irreducible] def GDeny.val (x : GDeny) : Value := .agg x.enc.toArray
theorem GDeny.val_eq (x : GDeny) : GDeny.val x = .agg (Enc.enc x).toArray := by unfold GDeny.val; rfl
theorem GDeny.ext_all (x y : GDeny) : x = y ↔ x.replica = y.replica ∧ x.index = y.index ∧ x.sig = y.sig := by
  constructor
  · intro h; cases h; simp
  · intro h; cases x; cases y; simp_all
theorem uu65 : Tryz.prog.underlying 65 = some (.struct (Tryz.prog.fieldsOf 65)) := by kernel_rfl
theorem st65 : Tryz.prog.stoodInHeld 65 = false := by kernel_rfl
theorem fl65 : fieldTO Tryz.prog 65 = [(3, 0), (3, 1), (37, 2)] := by kernel_rfl
theorem nb65 : noBlank Tryz.prog 65 = true := by kernel_rfl
@[go_sem ↓ high] theorem xl_GDeny (ρ : Operand → Value) (dst : Option Tmp) (x : Operand) (ty : TypeId) (pos : String) (after : Array Edge) (guard : Option (Nat × Bool)) : execOp ρ { dst, op := .load 65 x, type := ty, pos, after, guard } = (do pure (.value (← gLoad 65 (ρ x)))) := ex_load ..
theorem ag65 : aggT Tryz.prog 65 = true := by kernel_rfl
theorem sz65 : sizeT Tryz.prog 65 = 4 := by kernel_rfl
section
variable (w : World)
@[go_sem ↓ high] theorem ld_GDeny (a : Addr) : (gLoad 65 (.pointer (some a))).run Tryz.prog w = ofOpt ((get? GDeny w a).map GDeny.val) w (noLoad Tryz.prog 65 a w) := by
  unfold gLoad; exact run_loadAt_opt ag65 sz65 GDeny.val GDeny.val_eq
end
theorem lk65_0 (x : GDeny) : x.enc[0]? = some (.int .i64 x.replica) := by
  simp [GDeny.enc, List.getElem?_append]
theorem pt65_0 (w : World) (x : GDeny) : (part 3 x.enc.toArray 0).run Tryz.prog w = .ok (.int .i64 x.replica) w := run_part_one na3 us3 (lk65_0 x)
theorem lk65_1 (x : GDeny) : x.enc[1]? = some (.int .i64 x.index) := by
  simp [GDeny.enc, List.getElem?_append]
theorem pt65_1 (w : World) (x : GDeny) : (part 3 x.enc.toArray 1).run Tryz.prog w = .ok (.int .i64 x.index) w := run_part_one na3 us3 (lk65_1 x)
theorem ds65_2 (x : GDeny) : (x.enc.drop 2).take 2 = x.sig.enc := by
  unfold GDeny.enc
  simp [List.drop_append, List.drop_eq_nil_of_le] <;> (exact List.take_of_length_le (by simp [GSig.enc_len]))
theorem pt65_2 (w : World) (x : GDeny) : (part 37 x.enc.toArray 2).run Tryz.prog w = .ok (x.sig.val) w := by
  have h := run_part_agg (P := Tryz.prog) (w := w) (cs := x.enc) (ds := x.sig.enc) (off := 2) ag37 (by rw [GSig.enc_len]; exact sz37) (by simp [GSig.enc_len]) (by rw [GSig.enc_len]; exact ds65_2 x)
  rw [h, GSig.val_eq]; rfl
theorem eq_GDeny (w : World) (d : Nat) (x y : GDeny) : (Op.equalIn (d + 3) 65 (GDeny.val x) (GDeny.val y)).run Tryz.prog w = .ok (decide (x = y)) w := by
  have q0 : ∀ a b, (Op.equalIn (d + 2) 3 (.int .i64 a) (.int .i64 b)).run Tryz.prog w = .ok (decide (a = b)) w := fun a b => by rw [run_equalIn_int w (d + 1) 3 .i64 .i64 a b uk3]; congr 1
  have q1 : ∀ a b, (Op.equalIn (d + 2) 3 (.int .i64 a) (.int .i64 b)).run Tryz.prog w = .ok (decide (a = b)) w := fun a b => by rw [run_equalIn_int w (d + 1) 3 .i64 .i64 a b uk3]; congr 1
  have q2 : (Op.equalIn (d + 2) 37 x.sig.val y.sig.val).run Tryz.prog w = .ok (decide (x.sig = y.sig)) w := eq_GSig w (d + 0) _ _
  have h := run_equalIn_fields (d + 2) x.enc.toArray y.enc.toArray w uu65 st65 nb65
  rw [fl65] at h
  unfold GDeny.val
  refine h.trans ?_
  clear h
  simp only [eqFs, Sem.run_bind, pt65_0, pt65_1, pt65_2, q0, q1, q2, Result.andThen_ok, Sem.run_ite, Sem.run_pure]
  have he : decide (x = y) = (decide (x.replica = y.replica) && (decide (x.index = y.index) && (decide (x.sig = y.sig)))) := by
    rw [Bool.eq_iff_iff]; simp only [Bool.and_eq_true, decide_eq_true_eq]; exact GDeny.ext_all x y
  rw [he]
  generalize decide (x.replica = y.replica) = c0; generalize decide (x.index = y.index) = c1; generalize decide (x.sig = y.sig) = c2
  cases c0 <;> cases c1 <;> cases c2 <;> simp
@[go_sem ↓ high] theorem xq_GDeny (ρ : Operand → Value) (dst : Option Tmp) (x y : Operand) (ty yt : TypeId) (pos : String) (after : Array Edge) (guard : Option (Nat × Bool)) : execOp ρ { dst, op := .binOp .eql 65 x y yt, type := ty, pos, after, guard } = (do pure (.value (← gBin .eql 65 x y (ρ x) (ρ y)))) := ex_eql ..
theorem eg_GDeny : Tryz.prog.eqGuardType Tryz.prog.depth 65 = false := by kernel_rfl
@[go_sem ↓ high] theorem eql_GDeny (w : World) (ox oy : Operand) (x y : GDeny) : (gBin .eql 65 ox oy (GDeny.val x) (GDeny.val y)).run Tryz.prog w = .ok (.bool (decide (x = y))) w := by
  have h2 := eq_GDeny w 9997 x y
  rw [GDeny.val_eq, GDeny.val_eq] at h2 ⊢
  have h := run_eqGuard_agg (P := Tryz.prog) w .eql 65 ox oy (Enc.enc x).toArray (Enc.enc y).toArray eg_GDeny
  unfold gBin
  simp only [Sem.run_bind, h, Result.andThen_ok, run_eql_struct, h2]
/-! ### []ledger.place -/
/-! ### []uint8 -/
theorem ei61 : ElemI Tryz.prog 61 5 U8 1 := ⟨by kernel_rfl, by kernel_rfl⟩
/-! ### []api.Stamp -/
/-! ### []api.Cert -/
/-! ### []api.Promise -/
theorem ei50 : ElemI Tryz.prog 50 49 GPromise 64 := ⟨by kernel_rfl, by kernel_rfl⟩
@[go_sem ↓ high] theorem xg_50 (ρ : Operand → Value) (dst : Option Tmp) (ps : Array (Nat × Operand)) (ty : TypeId) (pos : String) (after : Array Edge) (guard : Option (Nat × Bool)) : execOp ρ { dst, op := .buildSlice 50 1 ps, type := ty, pos, after, guard } = (do pure (.value (← gBuildSlice 50 1 (ps.map fun (i, x) => (i, ρ x))))) := ex_buildSlice ..
@[go_sem ↓ high] theorem bs_50 (w : World) (x : GPromise) : (gBuildSlice 50 1 #[(0, GPromise.val x)]).run Tryz.prog w = .ok (.slice (some ⟨w.heap.size, 0, none⟩) 1 1) (w.alloc (.cells (GPromise.enc x).toArray 49)) := by
  rw [GPromise.val_eq]; exact run_buildSlice_one ei50 (by decide) x w
/-! ### []api.Opening -/
/-! ### []api.Tomb -/
instance : KEnc GName := ⟨GName.val, fun a b h => by rw [GName.val_eq, GName.val_eq] at h; injection h with h; exact Enc.inj _ _ (by simpa using congrArg Array.toList h)⟩
/-! ### map[api.Name]int -/
end Go.Proofs.YtfhhcgldikmejaaGreatDoor
