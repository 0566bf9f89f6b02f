/- The struct types of this seat as Lean types, with the runs of single operations over them. Conditions: those named in each theorem. -/
import Derived.Test.YthkifibmihijaaaGreatDoorP2
/- The struct types of this seat as Lean types, with the runs of single operations over them. Conditions: those named in each theorem. -/
namespace Go.Proofs.YthkifibmihijaaaGreatDoor
open Go Go.RowKit Go.Gv
set_option linter.unusedSimpArgs false

theorem na4 : aggT Tryz.prog 4 = false := by kernel_rfl
theorem us4 : (Tryz.prog.underlying 4).isSome = true := by kernel_rfl
theorem uk4 : Tryz.prog.underlying 4 = some .bool := by kernel_rfl
theorem na9 : aggT Tryz.prog 9 = false := by kernel_rfl
theorem us9 : (Tryz.prog.underlying 9).isSome = true := by kernel_rfl
theorem uk9 : Tryz.prog.underlying 9 = some .string := by kernel_rfl
theorem na85 : aggT Tryz.prog 85 = false := by kernel_rfl
theorem us85 : (Tryz.prog.underlying 85).isSome = true := by kernel_rfl
theorem na122 : aggT Tryz.prog 122 = false := by kernel_rfl
theorem us122 : (Tryz.prog.underlying 122).isSome = true := by kernel_rfl
theorem na125 : aggT Tryz.prog 125 = false := by kernel_rfl
theorem us125 : (Tryz.prog.underlying 125).isSome = true := by kernel_rfl
theorem na128 : aggT Tryz.prog 128 = false := by kernel_rfl
theorem us128 : (Tryz.prog.underlying 128).isSome = true := by kernel_rfl
theorem na183 : aggT Tryz.prog 183 = false := by kernel_rfl
theorem us183 : (Tryz.prog.underlying 183).isSome = true := by kernel_rfl

/-! ### gavel/code.Writer -/
structure GCodeWriter where
  b : Hdr
deriving DecidableEq
instance : Inhabited GCodeWriter := ⟨⟨default⟩⟩
def GCodeWriter.enc (x : GCodeWriter) : List Value := [(x.b.val)]
theorem GCodeWriter.enc_len (x : GCodeWriter) : x.enc.length = 1 := by simp [GCodeWriter.enc]
theorem GCodeWriter.enc_one (x : GCodeWriter) : ∀ u ∈ x.enc, u.oneCell' = true := by
  intro u hu
  simp only [GCodeWriter.enc, List.mem_append, List.mem_singleton] at hu
  subst hu; rfl
theorem GCodeWriter.enc_inj (x y : GCodeWriter) (h : x.enc = y.enc) : x = y := by
  obtain ⟨a0⟩ := x
  obtain ⟨b0⟩ := y
  simp only [GCodeWriter.enc] at h
  have e0 : a0 = b0 := Enc.inj (α := Hdr) _ _ h
  rw [e0]
instance : Enc GCodeWriter where
  n := 1
  enc := GCodeWriter.enc
  pos := by omega
  len := GCodeWriter.enc_len
  one := GCodeWriter.enc_one
  inj := GCodeWriter.enc_inj
@[go_sem] theorem GCodeWriter.n_eq : Enc.n GCodeWriter = 1 := rfl
@[irreducible] def GCodeWriter.val (x : GCodeWriter) : Value := .agg x.enc.toArray
theorem GCodeWriter.val_eq (x : GCodeWriter) : GCodeWriter.val x = .agg (Enc.enc x).toArray := by unfold GCodeWriter.val; rfl
theorem GCodeWriter.ext_all (x y : GCodeWriter) : x = y ↔ x.b = y.b := by
  constructor
  · intro h; cases h; simp
  · intro h; cases x; cases y; simp_all
theorem uu312 : Tryz.prog.underlying 312 = some (.struct (Tryz.prog.fieldsOf 312)) := by kernel_rfl
theorem st312 : Tryz.prog.stoodInHeld 312 = false := by kernel_rfl
theorem fl312 : fieldTO Tryz.prog 312 = [(64, 0)] := by kernel_rfl
theorem nb312 : noBlank Tryz.prog 312 = true := by kernel_rfl
@[go_sem ↓ high] theorem xl_GCodeWriter (ρ : Operand → Value) (dst : Option Tmp) (x : Operand) (ty : TypeId) (pos : String) (after : Array Edge) (guard : Option (Nat × Bool)) : execOp ρ { dst, op := .load 312 x, type := ty, pos, after, guard } = (do pure (.value (← gLoad 312 (ρ x)))) := ex_load ..
@[go_sem ↓ high] theorem xs_GCodeWriter (ρ : Operand → Value) (dst : Option Tmp) (x y : Operand) (ty : TypeId) (pos : String) (after : Array Edge) (guard : Option (Nat × Bool)) : execOp ρ { dst, op := .store 312 x y, type := ty, pos, after, guard } = (do gStore 312 (ρ x) (ρ y); pure .skip) := ex_store ..
@[go_sem ↓ high] theorem xb_GCodeWriter (ρ : Operand → Value) (dst : Option Tmp) (x : Operand) (ty : TypeId) (pos : String) (after : Array Edge) (guard : Option (Nat × Bool)) : execOp ρ { dst, op := .box 312 x, type := ty, pos, after, guard } = (do pure (.value (← gBox 312 (ρ x)))) := ex_box ..
@[go_sem ↓ high] theorem xa_GCodeWriter (ρ : Operand → Value) (dst : Option Tmp) (ty : TypeId) (pos : String) (after : Array Edge) (guard : Option (Nat × Bool)) : execOp ρ { dst, op := .alloc 312, type := ty, pos, after, guard } = (do pure (.value (← gAlloc 312))) := ex_alloc ..
theorem ag312 : aggT Tryz.prog 312 = true := by kernel_rfl
theorem sz312 : sizeT Tryz.prog 312 = 1 := by kernel_rfl
section
variable (w : World)
@[go_sem ↓ high] theorem ld_GCodeWriter (a : Addr) : (gLoad 312 (.pointer (some a))).run Tryz.prog w = ofOpt ((get? GCodeWriter w a).map GCodeWriter.val) w (noLoad Tryz.prog 312 a w) := by
  unfold gLoad; exact run_loadAt_opt ag312 sz312 GCodeWriter.val GCodeWriter.val_eq
@[go_sem ↓ high] theorem st_GCodeWriter (a : Addr) (x : GCodeWriter) : (gStore 312 (.pointer (some a)) (GCodeWriter.val x)).run Tryz.prog w = okU' ((get? GCodeWriter w a).isSome && blkFree w a.block) (World.putCells w a (GCodeWriter.enc x)) (noStore Tryz.prog 312 (.pointer (some a)) (GCodeWriter.val x) w) := run_gStore_any sz312 GCodeWriter.val GCodeWriter.val_eq w a x
@[go_sem ↓ high] theorem bx_GCodeWriter (x : GCodeWriter) : (gBox 312 (GCodeWriter.val x)).run Tryz.prog w = .ok (.pointer (some ⟨w.heap.size, 0, none⟩)) (w.alloc (.cells (GCodeWriter.enc x).toArray 312)) := by
  rw [GCodeWriter.val_eq]; exact run_gBox _ w
end
theorem lk312_0 (x : GCodeWriter) : x.enc[0]? = some (x.b.val) := by
  simp [GCodeWriter.enc, List.getElem?_append]
theorem pt312_0 (w : World) (x : GCodeWriter) : (part 64 x.enc.toArray 0).run Tryz.prog w = .ok (x.b.val) w := run_part_one na64 us64 (lk312_0 x)
@[go_sem ↓ high] theorem fd312_0 (w : World) (x : GCodeWriter) : (gField 312 (GCodeWriter.val x) 0).run Tryz.prog w = .ok (x.b.val) w := by
  rw [GCodeWriter.val_eq]
  exact run_gField w uu312 (by rw [fl312]; rfl) (pt312_0 w x)
@[go_sem ↓ high] theorem xf_GCodeWriter (ρ : Operand → Value) (dst : Option Tmp) (x : Operand) (i : Nat) (ty : TypeId) (pos : String) (after : Array Edge) (guard : Option (Nat × Bool)) : execOp ρ { dst, op := .field 312 x i, type := ty, pos, after, guard } = (do pure (.value (← gField 312 (ρ x) i))) := ex_field ..
theorem zr312 : zeroT Tryz.prog 312 = some (.agg (GCodeWriter.enc default).toArray) := by kernel_rfl
@[go_sem ↓ high] theorem al_GCodeWriter (w : World) : (gAlloc 312).run Tryz.prog w = .ok (.pointer (some ⟨w.heap.size, 0, none⟩)) (w.alloc (.cells (GCodeWriter.enc default).toArray 312)) := run_zero_alloc zr312 w
@[go_sem] theorem pc_GCodeWriter (w : World) (n : Nat) (x z : GCodeWriter) (hn : n = w.heap.size) : World.putCells (w.alloc (.cells (GCodeWriter.enc z).toArray 312)) ⟨n, 0, none⟩ (GCodeWriter.enc x) = w.alloc (.cells (GCodeWriter.enc x).toArray 312) := putCells_top x z hn
theorem GCodeWriter.at_b {w : World} {a : Addr} {x : GCodeWriter} (h : get? GCodeWriter w a = some x) : w.cell? (a.add 0) = some (x.b.val) := (get?_iff.1 h) _ _ (lk312_0 x)
@[go_sem] theorem nl312_0 (x : GCodeWriter) : x.enc[0]? = some (x.b.val) := by
  have h := (GCodeWriter.at_b (get?_new (w := (default : World)) 312 x))
  simp only [Addr.add_lit, Nat.zero_add, Nat.reduceAdd, World.cell?_alloc_new, List.getElem?_toArray] at h
  exact h
@[go_sem] theorem nw312 (w : World) (n : Nat) (x : GCodeWriter) (hn : n = w.heap.size) : get? GCodeWriter (w.alloc (.cells (GCodeWriter.enc x).toArray 312)) ⟨n, 0, none⟩ = some x := by
  subst hn; exact get?_new 312 x

/-! ### gavel/book.Book -/
structure GBookBook where
  marks : Option Nat
deriving DecidableEq
instance : Inhabited GBookBook := ⟨⟨none⟩⟩
def GBookBook.enc (x : GBookBook) : List Value := [(.map x.marks)]
theorem GBookBook.enc_len (x : GBookBook) : x.enc.length = 1 := by simp [GBookBook.enc]
theorem GBookBook.enc_one (x : GBookBook) : ∀ u ∈ x.enc, u.oneCell' = true := by
  intro u hu
  simp only [GBookBook.enc, List.mem_append, List.mem_singleton] at hu
  subst hu; rfl
theorem GBookBook.enc_inj (x y : GBookBook) (h : x.enc = y.enc) : x = y := by
  obtain ⟨a0⟩ := x
  obtain ⟨b0⟩ := y
  simp only [GBookBook.enc] at h
  have e0 : a0 = b0 := by have := List.head_eq_of_cons_eq h; injection this
  rw [e0]
instance : Enc GBookBook where
  n := 1
  enc := GBookBook.enc
  pos := by omega
  len := GBookBook.enc_len
  one := GBookBook.enc_one
  inj := GBookBook.enc_inj
@[go_sem] theorem GBookBook.n_eq : Enc.n GBookBook = 1 := rfl
@[irreducible] def GBookBook.val (x : GBookBook) : Value := .agg x.enc.toArray
theorem GBookBook.val_eq (x : GBookBook) : GBookBook.val x = .agg (Enc.enc x).toArray := by unfold GBookBook.val; rfl
theorem GBookBook.ext_all (x y : GBookBook) : x = y ↔ x.marks = y.marks := by
  constructor
  · intro h; cases h; simp
  · intro h; cases x; cases y; simp_all
theorem uu87 : Tryz.prog.underlying 87 = some (.struct (Tryz.prog.fieldsOf 87)) := by kernel_rfl
theorem st87 : Tryz.prog.stoodInHeld 87 = false := by kernel_rfl
theorem fl87 : fieldTO Tryz.prog 87 = [(85, 0)] := by kernel_rfl
theorem nb87 : noBlank Tryz.prog 87 = true := by kernel_rfl
@[go_sem ↓ high] theorem xl_GBookBook (ρ : Operand → Value) (dst : Option Tmp) (x : Operand) (ty : TypeId) (pos : String) (after : Array Edge) (guard : Option (Nat × Bool)) : execOp ρ { dst, op := .load 87 x, type := ty, pos, after, guard } = (do pure (.value (← gLoad 87 (ρ x)))) := ex_load ..
@[go_sem ↓ high] theorem xs_GBookBook (ρ : Operand → Value) (dst : Option Tmp) (x y : Operand) (ty : TypeId) (pos : String) (after : Array Edge) (guard : Option (Nat × Bool)) : execOp ρ { dst, op := .store 87 x y, type := ty, pos, after, guard } = (do gStore 87 (ρ x) (ρ y); pure .skip) := ex_store ..
@[go_sem ↓ high] theorem xb_GBookBook (ρ : Operand → Value) (dst : Option Tmp) (x : Operand) (ty : TypeId) (pos : String) (after : Array Edge) (guard : Option (Nat × Bool)) : execOp ρ { dst, op := .box 87 x, type := ty, pos, after, guard } = (do pure (.value (← gBox 87 (ρ x)))) := ex_box ..
@[go_sem ↓ high] theorem xa_GBookBook (ρ : Operand → Value) (dst : Option Tmp) (ty : TypeId) (pos : String) (after : Array Edge) (guard : Option (Nat × Bool)) : execOp ρ { dst, op := .alloc 87, type := ty, pos, after, guard } = (do pure (.value (← gAlloc 87))) := ex_alloc ..
theorem ag87 : aggT Tryz.prog 87 = true := by kernel_rfl
theorem sz87 : sizeT Tryz.prog 87 = 1 := by kernel_rfl
section
variable (w : World)
@[go_sem ↓ high] theorem ld_GBookBook (a : Addr) : (gLoad 87 (.pointer (some a))).run Tryz.prog w = ofOpt ((get? GBookBook w a).map GBookBook.val) w (noLoad Tryz.prog 87 a w) := by
  unfold gLoad; exact run_loadAt_opt ag87 sz87 GBookBook.val GBookBook.val_eq
@[go_sem ↓ high] theorem st_GBookBook (a : Addr) (x : GBookBook) : (gStore 87 (.pointer (some a)) (GBookBook.val x)).run Tryz.prog w = okU' ((get? GBookBook w a).isSome && blkFree w a.block) (World.putCells w a (GBookBook.enc x)) (noStore Tryz.prog 87 (.pointer (some a)) (GBookBook.val x) w) := run_gStore_any sz87 GBookBook.val GBookBook.val_eq w a x
@[go_sem ↓ high] theorem bx_GBookBook (x : GBookBook) : (gBox 87 (GBookBook.val x)).run Tryz.prog w = .ok (.pointer (some ⟨w.heap.size, 0, none⟩)) (w.alloc (.cells (GBookBook.enc x).toArray 87)) := by
  rw [GBookBook.val_eq]; exact run_gBox _ w
end
theorem lk87_0 (x : GBookBook) : x.enc[0]? = some (.map x.marks) := by
  simp [GBookBook.enc, List.getElem?_append]
theorem pt87_0 (w : World) (x : GBookBook) : (part 85 x.enc.toArray 0).run Tryz.prog w = .ok (.map x.marks) w := run_part_one na85 us85 (lk87_0 x)
@[go_sem ↓ high] theorem fd87_0 (w : World) (x : GBookBook) : (gField 87 (GBookBook.val x) 0).run Tryz.prog w = .ok (.map x.marks) w := by
  rw [GBookBook.val_eq]
  exact run_gField w uu87 (by rw [fl87]; rfl) (pt87_0 w x)
@[go_sem ↓ high] theorem xf_GBookBook (ρ : Operand → Value) (dst : Option Tmp) (x : Operand) (i : Nat) (ty : TypeId) (pos : String) (after : Array Edge) (guard : Option (Nat × Bool)) : execOp ρ { dst, op := .field 87 x i, type := ty, pos, after, guard } = (do pure (.value (← gField 87 (ρ x) i))) := ex_field ..
theorem zr87 : zeroT Tryz.prog 87 = some (.agg (GBookBook.enc default).toArray) := by kernel_rfl
@[go_sem ↓ high] theorem al_GBookBook (w : World) : (gAlloc 87).run Tryz.prog w = .ok (.pointer (some ⟨w.heap.size, 0, none⟩)) (w.alloc (.cells (GBookBook.enc default).toArray 87)) := run_zero_alloc zr87 w
@[go_sem] theorem pc_GBookBook (w : World) (n : Nat) (x z : GBookBook) (hn : n = w.heap.size) : World.putCells (w.alloc (.cells (GBookBook.enc z).toArray 87)) ⟨n, 0, none⟩ (GBookBook.enc x) = w.alloc (.cells (GBookBook.enc x).toArray 87) := putCells_top x z hn
theorem GBookBook.at_marks {w : World} {a : Addr} {x : GBookBook} (h : get? GBookBook w a = some x) : w.cell? (a.add 0) = some (.map x.marks) := (get?_iff.1 h) _ _ (lk87_0 x)
@[go_sem] theorem nl87_0 (x : GBookBook) : x.enc[0]? = some (.map x.marks) := by
  have h := (GBookBook.at_marks (get?_new (w := (default : World)) 87 x))
  simp only [Addr.add_lit, Nat.zero_add, Nat.reduceAdd, World.cell?_alloc_new, List.getElem?_toArray] at h
  exact h
@[go_sem] theorem nw87 (w : World) (n : Nat) (x : GBookBook) (hn : n = w.heap.size) : get? GBookBook (w.alloc (.cells (GBookBook.enc x).toArray 87)) ⟨n, 0, none⟩ = some x := by
  subst hn; exact get?_new 87 x
theorem pl87 : ((Tryz.prog.fieldsOf 87).toList.mapM fun f => (Tryz.prog.info? f.type).map fun i => (f.offset, i.size)) = some [(0, 1)] := by kernel_rfl
theorem fs87_0 (x : GBookBook) (v : Option Nat) (rest : List (Nat × Value)) : Instr.fill (fun i => ([(0, 1)] : List (Nat × Nat))[i]?) x.enc.toArray ((0, (.map v)) :: rest) = Instr.fill (fun i => ([(0, 1)] : List (Nat × Nat))[i]?) ({ x with marks := v } : GBookBook).enc.toArray rest := by
  have h := fill_seg [(0, 1)] 0 0 1 rfl (([] : List Value)) ([(.map x.marks)]) (([] : List Value)) ([(.map v)]) (.map v) rest (rfl) (by simp) (by simp) (by simp)
  have e1 : x.enc = (([] : List Value)) ++ ([(.map x.marks)] ++ (([] : List Value))) := by simp only [GBookBook.enc, List.nil_append, List.append_assoc, List.append_nil]
  have e2 : ({ x with marks := v } : GBookBook).enc = (([] : List Value)) ++ ([(.map v)] ++ (([] : List Value))) := by simp only [GBookBook.enc, List.nil_append, List.append_assoc, List.append_nil]
  rw [e1, e2]; exact h
@[go_sem ↓ high] theorem xd_GBookBook (ρ : Operand → Value) (dst : Option Tmp) (ps : Array (Nat × Operand)) (ty : TypeId) (pos : String) (after : Array Edge) (guard : Option (Nat × Bool)) : execOp ρ { dst, op := .build 87 ps, type := ty, pos, after, guard } = (do pure (.value (← gBuild 87 (ps.map fun (i, x) => (i, ρ x))))) := ex_build ..
@[go_sem ↓ high] theorem bd87_0 (w : World) (v0 : Option Nat) : (gBuild 87 #[(0, (.map v0))]).run Tryz.prog w = .ok (GBookBook.val ⟨v0⟩) w := by
  rw [GBookBook.val_eq]
  refine run_gBuild_of uu87 zr87 pl87 ?_ w
  show Instr.fill _ (GBookBook.enc default).toArray [(0, (.map v0))] = _
  rw [fs87_0]; rfl

/-! ### gavel/book.signed -/
structure GBookSigned where
  by_ : Int
  text : ByteArray
deriving DecidableEq
instance : Inhabited GBookSigned := ⟨⟨0, ByteArray.empty⟩⟩
def GBookSigned.enc (x : GBookSigned) : List Value := [(.int .i64 x.by_)] ++ ([(.string x.text)])
theorem GBookSigned.enc_len (x : GBookSigned) : x.enc.length = 2 := by simp [GBookSigned.enc]
theorem GBookSigned.enc_one (x : GBookSigned) : ∀ u ∈ x.enc, u.oneCell' = true := by
  intro u hu
  simp only [GBookSigned.enc, List.mem_append, List.mem_singleton] at hu
  rcases hu with hu | hu
  · subst hu; rfl
  · subst hu; rfl
theorem GBookSigned.enc_inj (x y : GBookSigned) (h : x.enc = y.enc) : x = y := by
  obtain ⟨a0, a1⟩ := x
  obtain ⟨b0, b1⟩ := y
  simp only [GBookSigned.enc] at h
  obtain ⟨p0, q0⟩ := List.append_inj h (rfl)
  have e0 : a0 = b0 := by have := List.head_eq_of_cons_eq p0; injection this
  have e1 : a1 = b1 := by have := List.head_eq_of_cons_eq q0; injection this
  rw [e0, e1]
instance : Enc GBookSigned where
  n := 2
  enc := GBookSigned.enc
  pos := by omega
  len := GBookSigned.enc_len
  one := GBookSigned.enc_one
  inj := GBookSigned.enc_inj
@[go_sem] theorem GBookSigned.n_eq : Enc.n GBookSigned = 2 := rfl
@[irreducible] def GBookSigned.val (x : GBookSigned) : Value := .agg x.enc.toArray
theorem GBookSigned.val_eq (x : GBookSigned) : GBookSigned.val x = .agg (Enc.enc x).toArray := by unfold GBookSigned.val; rfl
theorem GBookSigned.ext_all (x y : GBookSigned) : x = y ↔ x.by_ = y.by_ ∧ x.text = y.text := by
  constructor
  · intro h; cases h; simp
  · intro h; cases x; cases y; simp_all
theorem uu245 : Tryz.prog.underlying 245 = some (.struct (Tryz.prog.fieldsOf 245)) := by kernel_rfl
theorem st245 : Tryz.prog.stoodInHeld 245 = false := by kernel_rfl
theorem fl245 : fieldTO Tryz.prog 245 = [(3, 0), (9, 1)] := by kernel_rfl
theorem nb245 : noBlank Tryz.prog 245 = true := by kernel_rfl
@[go_sem ↓ high] theorem xl_GBookSigned (ρ : Operand → Value) (dst : Option Tmp) (x : Operand) (ty : TypeId) (pos : String) (after : Array Edge) (guard : Option (Nat × Bool)) : execOp ρ { dst, op := .load 245 x, type := ty, pos, after, guard } = (do pure (.value (← gLoad 245 (ρ x)))) := ex_load ..
@[go_sem ↓ high] theorem xs_GBookSigned (ρ : Operand → Value) (dst : Option Tmp) (x y : Operand) (ty : TypeId) (pos : String) (after : Array Edge) (guard : Option (Nat × Bool)) : execOp ρ { dst, op := .store 245 x y, type := ty, pos, after, guard } = (do gStore 245 (ρ x) (ρ y); pure .skip) := ex_store ..
@[go_sem ↓ high] theorem xb_GBookSigned (ρ : Operand → Value) (dst : Option Tmp) (x : Operand) (ty : TypeId) (pos : String) (after : Array Edge) (guard : Option (Nat × Bool)) : execOp ρ { dst, op := .box 245 x, type := ty, pos, after, guard } = (do pure (.value (← gBox 245 (ρ x)))) := ex_box ..
@[go_sem ↓ high] theorem xa_GBookSigned (ρ : Operand → Value) (dst : Option Tmp) (ty : TypeId) (pos : String) (after : Array Edge) (guard : Option (Nat × Bool)) : execOp ρ { dst, op := .alloc 245, type := ty, pos, after, guard } = (do pure (.value (← gAlloc 245))) := ex_alloc ..
theorem ag245 : aggT Tryz.prog 245 = true := by kernel_rfl
theorem sz245 : sizeT Tryz.prog 245 = 2 := by kernel_rfl
section
variable (w : World)
@[go_sem ↓ high] theorem ld_GBookSigned (a : Addr) : (gLoad 245 (.pointer (some a))).run Tryz.prog w = ofOpt ((get? GBookSigned w a).map GBookSigned.val) w (noLoad Tryz.prog 245 a w) := by
  unfold gLoad; exact run_loadAt_opt ag245 sz245 GBookSigned.val GBookSigned.val_eq
@[go_sem ↓ high] theorem st_GBookSigned (a : Addr) (x : GBookSigned) : (gStore 245 (.pointer (some a)) (GBookSigned.val x)).run Tryz.prog w = okU' ((get? GBookSigned w a).isSome && blkFree w a.block) (World.putCells w a (GBookSigned.enc x)) (noStore Tryz.prog 245 (.pointer (some a)) (GBookSigned.val x) w) := run_gStore_any sz245 GBookSigned.val GBookSigned.val_eq w a x
@[go_sem ↓ high] theorem bx_GBookSigned (x : GBookSigned) : (gBox 245 (GBookSigned.val x)).run Tryz.prog w = .ok (.pointer (some ⟨w.heap.size, 0, none⟩)) (w.alloc (.cells (GBookSigned.enc x).toArray 245)) := by
  rw [GBookSigned.val_eq]; exact run_gBox _ w
end
theorem lk245_0 (x : GBookSigned) : x.enc[0]? = some (.int .i64 x.by_) := by
  simp [GBookSigned.enc, List.getElem?_append]
theorem pt245_0 (w : World) (x : GBookSigned) : (part 3 x.enc.toArray 0).run Tryz.prog w = .ok (.int .i64 x.by_) w := run_part_one na3 us3 (lk245_0 x)
@[go_sem ↓ high] theorem fd245_0 (w : World) (x : GBookSigned) : (gField 245 (GBookSigned.val x) 0).run Tryz.prog w = .ok (.int .i64 x.by_) w := by
  rw [GBookSigned.val_eq]
  exact run_gField w uu245 (by rw [fl245]; rfl) (pt245_0 w x)
theorem lk245_1 (x : GBookSigned) : x.enc[1]? = some (.string x.text) := by
  simp [GBookSigned.enc, List.getElem?_append]
theorem pt245_1 (w : World) (x : GBookSigned) : (part 9 x.enc.toArray 1).run Tryz.prog w = .ok (.string x.text) w := run_part_one na9 us9 (lk245_1 x)
@[go_sem ↓ high] theorem fd245_1 (w : World) (x : GBookSigned) : (gField 245 (GBookSigned.val x) 1).run Tryz.prog w = .ok (.string x.text) w := by
  rw [GBookSigned.val_eq]
  exact run_gField w uu245 (by rw [fl245]; rfl) (pt245_1 w x)
@[go_sem ↓ high] theorem xf_GBookSigned (ρ : Operand → Value) (dst : Option Tmp) (x : Operand) (i : Nat) (ty : TypeId) (pos : String) (after : Array Edge) (guard : Option (Nat × Bool)) : execOp ρ { dst, op := .field 245 x i, type := ty, pos, after, guard } = (do pure (.value (← gField 245 (ρ x) i))) := ex_field ..
theorem zr245 : zeroT Tryz.prog 245 = some (.agg (GBookSigned.enc default).toArray) := by kernel_rfl
@[go_sem ↓ high] theorem al_GBookSigned (w : World) : (gAlloc 245).run Tryz.prog w = .ok (.pointer (some ⟨w.heap.size, 0, none⟩)) (w.alloc (.cells (GBookSigned.enc default).toArray 245)) := run_zero_alloc zr245 w
@[go_sem] theorem pc_GBookSigned (w : World) (n : Nat) (x z : GBookSigned) (hn : n = w.heap.size) : World.putCells (w.alloc (.cells (GBookSigned.enc z).toArray 245)) ⟨n, 0, none⟩ (GBookSigned.enc x) = w.alloc (.cells (GBookSigned.enc x).toArray 245) := putCells_top x z hn
theorem GBookSigned.at_by_ {w : World} {a : Addr} {x : GBookSigned} (h : get? GBookSigned w a = some x) : w.cell? (a.add 0) = some (.int .i64 x.by_) := (get?_iff.1 h) _ _ (lk245_0 x)
theorem GBookSigned.at_text {w : World} {a : Addr} {x : GBookSigned} (h : get? GBookSigned w a = some x) : w.cell? (a.add 1) = some (.string x.text) := (get?_iff.1 h) _ _ (lk245_1 x)
@[go_sem] theorem nl245_0 (x : GBookSigned) : x.enc[0]? = some (.int .i64 x.by_) := by
  have h := (GBookSigned.at_by_ (get?_new (w := (default : World)) 245 x))
  simp only [Addr.add_lit, Nat.zero_add, Nat.reduceAdd, World.cell?_alloc_new, List.getElem?_toArray] at h
  exact h
@[go_sem] theorem nl245_1 (x : GBookSigned) : x.enc[1]? = some (.string x.text) := by
  have h := (GBookSigned.at_text (get?_new (w := (default : World)) 245 x))
  simp only [Addr.add_lit, Nat.zero_add, Nat.reduceAdd, World.cell?_alloc_new, List.getElem?_toArray] at h
  exact h
@[go_sem] theorem nw245 (w : World) (n : Nat) (x : GBookSigned) (hn : n = w.heap.size) : get? GBookSigned (w.alloc (.cells (GBookSigned.enc x).toArray 245)) ⟨n, 0, none⟩ = some x := by
  subst hn; exact get?_new 245 x
theorem pl245 : ((Tryz.prog.fieldsOf 245).toList.mapM fun f => (Tryz.prog.info? f.type).map fun i => (f.offset, i.size)) = some [(0, 1), (1, 1)] := by kernel_rfl
theorem fs245_0 (x : GBookSigned) (v : Int) (rest : List (Nat × Value)) : Instr.fill (fun i => ([(0, 1), (1, 1)] : List (Nat × Nat))[i]?) x.enc.toArray ((0, (.int .i64 v)) :: rest) = Instr.fill (fun i => ([(0, 1), (1, 1)] : List (Nat × Nat))[i]?) ({ x with by_ := v } : GBookSigned).enc.toArray rest := by
  have h := fill_seg [(0, 1), (1, 1)] 0 0 1 rfl (([] : List Value)) ([(.int .i64 x.by_)]) ([(.string x.text)] ++ (([] : List Value))) ([(.int .i64 v)]) (.int .i64 v) rest (rfl) (by simp) (by simp) (by simp)
  have e1 : x.enc = (([] : List Value)) ++ ([(.int .i64 x.by_)] ++ ([(.string x.text)] ++ (([] : List Value)))) := by simp only [GBookSigned.enc, List.nil_append, List.append_assoc, List.append_nil]
  have e2 : ({ x with by_ := v } : GBookSigned).enc = (([] : List Value)) ++ ([(.int .i64 v)] ++ ([(.string x.text)] ++ (([] : List Value)))) := by simp only [GBookSigned.enc, List.nil_append, List.append_assoc, List.append_nil]
  rw [e1, e2]; exact h
theorem fs245_1 (x : GBookSigned) (v : ByteArray) (rest : List (Nat × Value)) : Instr.fill (fun i => ([(0, 1), (1, 1)] : List (Nat × Nat))[i]?) x.enc.toArray ((1, (.string v)) :: rest) = Instr.fill (fun i => ([(0, 1), (1, 1)] : List (Nat × Nat))[i]?) ({ x with text := v } : GBookSigned).enc.toArray rest := by
  have h := fill_seg [(0, 1), (1, 1)] 1 1 1 rfl (([] : List Value) ++ ([(.int .i64 x.by_)])) ([(.string x.text)]) (([] : List Value)) ([(.string v)]) (.string v) rest (rfl) (by simp) (by simp) (by simp)
  have e1 : x.enc = (([] : List Value) ++ ([(.int .i64 x.by_)])) ++ ([(.string x.text)] ++ (([] : List Value))) := by simp only [GBookSigned.enc, List.nil_append, List.append_assoc, List.append_nil]
  have e2 : ({ x with text := v } : GBookSigned).enc = (([] : List Value) ++ ([(.int .i64 x.by_)])) ++ ([(.string v)] ++ (([] : List Value))) := by simp only [GBookSigned.enc, List.nil_append, List.append_assoc, List.append_nil]
  rw [e1, e2]; exact h
@[go_sem ↓ high] theorem xd_GBookSigned (ρ : Operand → Value) (dst : Option Tmp) (ps : Array (Nat × Operand)) (ty : TypeId) (pos : String) (after : Array Edge) (guard : Option (Nat × Bool)) : execOp ρ { dst, op := .build 245 ps, type := ty, pos, after, guard } = (do pure (.value (← gBuild 245 (ps.map fun (i, x) => (i, ρ x))))) := ex_build ..
@[go_sem ↓ high] theorem bd245_0 (w : World) (v0 : Int) (v1 : ByteArray) : (gBuild 245 #[(0, (.int .i64 v0)), (1, (.string v1))]).run Tryz.prog w = .ok (GBookSigned.val ⟨v0, v1⟩) w := by
  rw [GBookSigned.val_eq]
  refine run_gBuild_of uu245 zr245 pl245 ?_ w
  show Instr.fill _ (GBookSigned.enc default).toArray [(0, (.int .i64 v0)), (1, (.string v1))] = _
  rw [fs245_0, fs245_1]; rfl
theorem eq_GBookSigned (w : World) (d : Nat) (x y : GBookSigned) : (Op.equalIn (d + 2) 245 (GBookSigned.val x) (GBookSigned.val y)).run Tryz.prog w = .ok (decide (x = y)) w := by
  have q0 : ∀ a b, (Op.equalIn (d + 1) 3 (.int .i64 a) (.int .i64 b)).run Tryz.prog w = .ok (decide (a = b)) w := fun a b => by rw [run_equalIn_int w (d + 0) 3 .i64 .i64 a b uk3]; congr 1
  have q1 : ∀ a b, (Op.equalIn (d + 1) 9 (.string a) (.string b)).run Tryz.prog w = .ok (decide (a = b)) w := fun a b => by rw [run_equalIn_string w (d + 0) 9 a b uk9, bytes_beq]
  have h := run_equalIn_fields (d + 1) x.enc.toArray y.enc.toArray w uu245 st245 nb245
  rw [fl245] at h
  unfold GBookSigned.val
  refine h.trans ?_
  clear h
  simp only [eqFs, Sem.run_bind, pt245_0, pt245_1, q0, q1, Result.andThen_ok, Sem.run_ite, Sem.run_pure]
  have he : decide (x = y) = (decide (x.by_ = y.by_) && (decide (x.text = y.text))) := by
    rw [Bool.eq_iff_iff]; simp only [Bool.and_eq_true, decide_eq_true_eq]; exact GBookSigned.ext_all x y
  rw [he]
  generalize decide (x.by_ = y.by_) = c0; generalize decide (x.text = y.text) = c1
  cases c0 <;> cases c1 <;> simp
@[go_sem ↓ high] theorem xq_GBookSigned (ρ : Operand → Value) (dst : Option Tmp) (x y : Operand) (ty yt : TypeId) (pos : String) (after : Array Edge) (guard : Option (Nat × Bool)) : execOp ρ { dst, op := .binOp .eql 245 x y yt, type := ty, pos, after, guard } = (do pure (.value (← gBin .eql 245 x y (ρ x) (ρ y)))) := ex_eql ..
@[go_sem ↓ high] theorem xn_GBookSigned (ρ : Operand → Value) (dst : Option Tmp) (x y : Operand) (ty yt : TypeId) (pos : String) (after : Array Edge) (guard : Option (Nat × Bool)) : execOp ρ { dst, op := .binOp .neq 245 x y yt, type := ty, pos, after, guard } = (do pure (.value (← gBin .neq 245 x y (ρ x) (ρ y)))) := ex_neq ..
theorem eg_GBookSigned : Tryz.prog.eqGuardType Tryz.prog.depth 245 = false := by kernel_rfl
@[go_sem ↓ high] theorem eql_GBookSigned (w : World) (ox oy : Operand) (x y : GBookSigned) : (gBin .eql 245 ox oy (GBookSigned.val x) (GBookSigned.val y)).run Tryz.prog w = .ok (.bool (decide (x = y))) w := by
  have h2 := eq_GBookSigned w 9998 x y
  rw [GBookSigned.val_eq, GBookSigned.val_eq] at h2 ⊢
  have h := run_eqGuard_agg (P := Tryz.prog) w .eql 245 ox oy (Enc.enc x).toArray (Enc.enc y).toArray eg_GBookSigned
  unfold gBin
  simp only [Sem.run_bind, h, Result.andThen_ok, run_eql_struct, h2]
@[go_sem ↓ high] theorem neq_GBookSigned (w : World) (ox oy : Operand) (x y : GBookSigned) : (gBin .neq 245 ox oy (GBookSigned.val x) (GBookSigned.val y)).run Tryz.prog w = .ok (.bool (!decide (x = y))) w := by
  have h2 := eq_GBookSigned w 9998 x y
  rw [GBookSigned.val_eq, GBookSigned.val_eq] at h2 ⊢
  have h := run_eqGuard_agg (P := Tryz.prog) w .neq 245 ox oy (Enc.enc x).toArray (Enc.enc y).toArray eg_GBookSigned
  unfold gBin
  simp only [Sem.run_bind, h, Result.andThen_ok, run_neq_struct, h2]

/-! ### gavel/stamp.Stamper -/
structure GStampStamper where
  c : GConf
  replica : Int
  now : Int
  floor : Int
  last : Int
  stamps : Option Nat
deriving DecidableEq
instance : Inhabited GStampStamper := ⟨⟨default, 0, 0, 0, 0, none⟩⟩
def GStampStamper.enc (x : GStampStamper) : List Value := x.c.enc ++ ([(.int .i64 x.replica)] ++ ([(.int .u64 x.now)] ++ ([(.int .u64 x.floor)] ++ ([(.int .u64 x.last)] ++ ([(.map x.stamps)])))))
theorem GStampStamper.enc_len (x : GStampStamper) : x.enc.length = 7 := by simp [GStampStamper.enc, GConf.enc_len]
theorem GStampStamper.enc_one (x : GStampStamper) : ∀ u ∈ x.enc, u.oneCell' = true := by
  intro u hu
  simp only [GStampStamper.enc, List.mem_append, List.mem_singleton] at hu
  rcases hu with hu | hu | hu | hu | hu | hu
  · exact Enc.one (α := GConf) _ _ hu
  · subst hu; rfl
  · subst hu; rfl
  · subst hu; rfl
  · subst hu; rfl
  · subst hu; rfl
theorem GStampStamper.enc_inj (x y : GStampStamper) (h : x.enc = y.enc) : x = y := by
  obtain ⟨a0, a1, a2, a3, a4, a5⟩ := x
  obtain ⟨b0, b1, b2, b3, b4, b5⟩ := y
  simp only [GStampStamper.enc] at h
  obtain ⟨p0, q0⟩ := List.append_inj h (by simp [GConf.enc_len])
  have e0 := Enc.inj (α := GConf) _ _ p0
  obtain ⟨p1, q1⟩ := List.append_inj q0 (rfl)
  have e1 : a1 = b1 := by have := List.head_eq_of_cons_eq p1; injection this
  obtain ⟨p2, q2⟩ := List.append_inj q1 (rfl)
  have e2 : a2 = b2 := by have := List.head_eq_of_cons_eq p2; injection this
  obtain ⟨p3, q3⟩ := List.append_inj q2 (rfl)
  have e3 : a3 = b3 := by have := List.head_eq_of_cons_eq p3; injection this
  obtain ⟨p4, q4⟩ := List.append_inj q3 (rfl)
  have e4 : a4 = b4 := by have := List.head_eq_of_cons_eq p4; injection this
  have e5 : a5 = b5 := by have := List.head_eq_of_cons_eq q4; injection this
  rw [e0, e1, e2, e3, e4, e5]
instance : Enc GStampStamper where
  n := 7
  enc := GStampStamper.enc
  pos := by omega
  len := GStampStamper.enc_len
  one := GStampStamper.enc_one
  inj := GStampStamper.enc_inj
@[go_sem] theorem GStampStamper.n_eq : Enc.n GStampStamper = 7 := rfl
@[irreducible] def GStampStamper.val (x : GStampStamper) : Value := .agg x.enc.toArray
theorem GStampStamper.val_eq (x : GStampStamper) : GStampStamper.val x = .agg (Enc.enc x).toArray := by unfold GStampStamper.val; rfl
theorem GStampStamper.ext_all (x y : GStampStamper) : x = y ↔ x.c = y.c ∧ x.replica = y.replica ∧ x.now = y.now ∧ x.floor = y.floor ∧ x.last = y.last ∧ x.stamps = y.stamps := by
  constructor
  · intro h; cases h; simp
  · intro h; cases x; cases y; simp_all
theorem uu124 : Tryz.prog.underlying 124 = some (.struct (Tryz.prog.fieldsOf 124)) := by kernel_rfl
theorem st124 : Tryz.prog.stoodInHeld 124 = false := by kernel_rfl
theorem fl124 : fieldTO Tryz.prog 124 = [(23, 0), (3, 2), (42, 3), (42, 4), (42, 5), (122, 6)] := by kernel_rfl
theorem nb124 : noBlank Tryz.prog 124 = true := by kernel_rfl
@[go_sem ↓ high] theorem xl_GStampStamper (ρ : Operand → Value) (dst : Option Tmp) (x : Operand) (ty : TypeId) (pos : String) (after : Array Edge) (guard : Option (Nat × Bool)) : execOp ρ { dst, op := .load 124 x, type := ty, pos, after, guard } = (do pure (.value (← gLoad 124 (ρ x)))) := ex_load ..
@[go_sem ↓ high] theorem xs_GStampStamper (ρ : Operand → Value) (dst : Option Tmp) (x y : Operand) (ty : TypeId) (pos : String) (after : Array Edge) (guard : Option (Nat × Bool)) : execOp ρ { dst, op := .store 124 x y, type := ty, pos, after, guard } = (do gStore 124 (ρ x) (ρ y); pure .skip) := ex_store ..
@[go_sem ↓ high] theorem xb_GStampStamper (ρ : Operand → Value) (dst : Option Tmp) (x : Operand) (ty : TypeId) (pos : String) (after : Array Edge) (guard : Option (Nat × Bool)) : execOp ρ { dst, op := .box 124 x, type := ty, pos, after, guard } = (do pure (.value (← gBox 124 (ρ x)))) := ex_box ..
@[go_sem ↓ high] theorem xa_GStampStamper (ρ : Operand → Value) (dst : Option Tmp) (ty : TypeId) (pos : String) (after : Array Edge) (guard : Option (Nat × Bool)) : execOp ρ { dst, op := .alloc 124, type := ty, pos, after, guard } = (do pure (.value (← gAlloc 124))) := ex_alloc ..
theorem ag124 : aggT Tryz.prog 124 = true := by kernel_rfl
theorem sz124 : sizeT Tryz.prog 124 = 7 := by kernel_rfl
section
variable (w : World)
@[go_sem ↓ high] theorem ld_GStampStamper (a : Addr) : (gLoad 124 (.pointer (some a))).run Tryz.prog w = ofOpt ((get? GStampStamper w a).map GStampStamper.val) w (noLoad Tryz.prog 124 a w) := by
  unfold gLoad; exact run_loadAt_opt ag124 sz124 GStampStamper.val GStampStamper.val_eq
@[go_sem ↓ high] theorem st_GStampStamper (a : Addr) (x : GStampStamper) : (gStore 124 (.pointer (some a)) (GStampStamper.val x)).run Tryz.prog w = okU' ((get? GStampStamper w a).isSome && blkFree w a.block) (World.putCells w a (GStampStamper.enc x)) (noStore Tryz.prog 124 (.pointer (some a)) (GStampStamper.val x) w) := run_gStore_any sz124 GStampStamper.val GStampStamper.val_eq w a x
@[go_sem ↓ high] theorem bx_GStampStamper (x : GStampStamper) : (gBox 124 (GStampStamper.val x)).run Tryz.prog w = .ok (.pointer (some ⟨w.heap.size, 0, none⟩)) (w.alloc (.cells (GStampStamper.enc x).toArray 124)) := by
  rw [GStampStamper.val_eq]; exact run_gBox _ w
end
theorem ds124_0 (x : GStampStamper) : (x.enc.drop 0).take 2 = x.c.enc := by
  unfold GStampStamper.enc
  simp only [List.drop_zero] <;> (rw [List.take_append_of_le_length (by simp [GConf.enc_len])]; exact List.take_of_length_le (by simp [GConf.enc_len]))
theorem pt124_0 (w : World) (x : GStampStamper) : (part 23 x.enc.toArray 0).run Tryz.prog w = .ok (x.c.val) w := by
  have h := run_part_agg (P := Tryz.prog) (w := w) (cs := x.enc) (ds := x.c.enc) (off := 0) ag23 (by rw [GConf.enc_len]; exact sz23) (by simp [GConf.enc_len]) (by rw [GConf.enc_len]; exact ds124_0 x)
  rw [h, GConf.val_eq]; rfl
@[go_sem ↓ high] theorem fd124_0 (w : World) (x : GStampStamper) : (gField 124 (GStampStamper.val x) 0).run Tryz.prog w = .ok (x.c.val) w := by
  rw [GStampStamper.val_eq]
  exact run_gField w uu124 (by rw [fl124]; rfl) (pt124_0 w x)
theorem lk124_1 (x : GStampStamper) : x.enc[2]? = some (.int .i64 x.replica) := by
  simp [GStampStamper.enc, List.getElem?_append, GConf.enc_len]
theorem pt124_1 (w : World) (x : GStampStamper) : (part 3 x.enc.toArray 2).run Tryz.prog w = .ok (.int .i64 x.replica) w := run_part_one na3 us3 (lk124_1 x)
@[go_sem ↓ high] theorem fd124_1 (w : World) (x : GStampStamper) : (gField 124 (GStampStamper.val x) 1).run Tryz.prog w = .ok (.int .i64 x.replica) w := by
  rw [GStampStamper.val_eq]
  exact run_gField w uu124 (by rw [fl124]; rfl) (pt124_1 w x)
theorem lk124_2 (x : GStampStamper) : x.enc[3]? = some (.int .u64 x.now) := by
  simp [GStampStamper.enc, List.getElem?_append, GConf.enc_len]
theorem pt124_2 (w : World) (x : GStampStamper) : (part 42 x.enc.toArray 3).run Tryz.prog w = .ok (.int .u64 x.now) w := run_part_one na42 us42 (lk124_2 x)
@[go_sem ↓ high] theorem fd124_2 (w : World) (x : GStampStamper) : (gField 124 (GStampStamper.val x) 2).run Tryz.prog w = .ok (.int .u64 x.now) w := by
  rw [GStampStamper.val_eq]
  exact run_gField w uu124 (by rw [fl124]; rfl) (pt124_2 w x)
theorem lk124_3 (x : GStampStamper) : x.enc[4]? = some (.int .u64 x.floor) := by
  simp [GStampStamper.enc, List.getElem?_append, GConf.enc_len]
theorem pt124_3 (w : World) (x : GStampStamper) : (part 42 x.enc.toArray 4).run Tryz.prog w = .ok (.int .u64 x.floor) w := run_part_one na42 us42 (lk124_3 x)
@[go_sem ↓ high] theorem fd124_3 (w : World) (x : GStampStamper) : (gField 124 (GStampStamper.val x) 3).run Tryz.prog w = .ok (.int .u64 x.floor) w := by
  rw [GStampStamper.val_eq]
  exact run_gField w uu124 (by rw [fl124]; rfl) (pt124_3 w x)
theorem lk124_4 (x : GStampStamper) : x.enc[5]? = some (.int .u64 x.last) := by
  simp [GStampStamper.enc, List.getElem?_append, GConf.enc_len]
theorem pt124_4 (w : World) (x : GStampStamper) : (part 42 x.enc.toArray 5).run Tryz.prog w = .ok (.int .u64 x.last) w := run_part_one na42 us42 (lk124_4 x)
@[go_sem ↓ high] theorem fd124_4 (w : World) (x : GStampStamper) : (gField 124 (GStampStamper.val x) 4).run Tryz.prog w = .ok (.int .u64 x.last) w := by
  rw [GStampStamper.val_eq]
  exact run_gField w uu124 (by rw [fl124]; rfl) (pt124_4 w x)
theorem lk124_5 (x : GStampStamper) : x.enc[6]? = some (.map x.stamps) := by
  simp [GStampStamper.enc, List.getElem?_append, GConf.enc_len]
theorem pt124_5 (w : World) (x : GStampStamper) : (part 122 x.enc.toArray 6).run Tryz.prog w = .ok (.map x.stamps) w := run_part_one na122 us122 (lk124_5 x)
@[go_sem ↓ high] theorem fd124_5 (w : World) (x : GStampStamper) : (gField 124 (GStampStamper.val x) 5).run Tryz.prog w = .ok (.map x.stamps) w := by
  rw [GStampStamper.val_eq]
  exact run_gField w uu124 (by rw [fl124]; rfl) (pt124_5 w x)
@[go_sem ↓ high] theorem xf_GStampStamper (ρ : Operand → Value) (dst : Option Tmp) (x : Operand) (i : Nat) (ty : TypeId) (pos : String) (after : Array Edge) (guard : Option (Nat × Bool)) : execOp ρ { dst, op := .field 124 x i, type := ty, pos, after, guard } = (do pure (.value (← gField 124 (ρ x) i))) := ex_field ..
theorem zr124 : zeroT Tryz.prog 124 = some (.agg (GStampStamper.enc default).toArray) := by kernel_rfl
@[go_sem ↓ high] theorem al_GStampStamper (w : World) : (gAlloc 124).run Tryz.prog w = .ok (.pointer (some ⟨w.heap.size, 0, none⟩)) (w.alloc (.cells (GStampStamper.enc default).toArray 124)) := run_zero_alloc zr124 w
@[go_sem] theorem pc_GStampStamper (w : World) (n : Nat) (x z : GStampStamper) (hn : n = w.heap.size) : World.putCells (w.alloc (.cells (GStampStamper.enc z).toArray 124)) ⟨n, 0, none⟩ (GStampStamper.enc x) = w.alloc (.cells (GStampStamper.enc x).toArray 124) := putCells_top x z hn
theorem GStampStamper.at_c {w : World} {a : Addr} {x : GStampStamper} (h : get? GStampStamper w a = some x) : get? GConf w (a.add 0) = some x.c := by
  rw [get?_iff] at h ⊢
  refine h.sub 0 fun j v hv => ?_
  have hd := ds124_0 x
  have hj : j < 2 := by have := (List.getElem?_eq_some_iff.1 hv).1; rwa [Enc.len] at this
  show x.enc[0 + j]? = some v
  rw [← List.getElem?_drop, ← List.getElem?_take_of_lt hj, hd]; exact hv
theorem GStampStamper.at_replica {w : World} {a : Addr} {x : GStampStamper} (h : get? GStampStamper w a = some x) : w.cell? (a.add 2) = some (.int .i64 x.replica) := (get?_iff.1 h) _ _ (lk124_1 x)
theorem GStampStamper.at_now {w : World} {a : Addr} {x : GStampStamper} (h : get? GStampStamper w a = some x) : w.cell? (a.add 3) = some (.int .u64 x.now) := (get?_iff.1 h) _ _ (lk124_2 x)
theorem GStampStamper.at_floor {w : World} {a : Addr} {x : GStampStamper} (h : get? GStampStamper w a = some x) : w.cell? (a.add 4) = some (.int .u64 x.floor) := (get?_iff.1 h) _ _ (lk124_3 x)
theorem GStampStamper.at_last {w : World} {a : Addr} {x : GStampStamper} (h : get? GStampStamper w a = some x) : w.cell? (a.add 5) = some (.int .u64 x.last) := (get?_iff.1 h) _ _ (lk124_4 x)
theorem GStampStamper.at_stamps {w : World} {a : Addr} {x : GStampStamper} (h : get? GStampStamper w a = some x) : w.cell? (a.add 6) = some (.map x.stamps) := (get?_iff.1 h) _ _ (lk124_5 x)
@[go_sem] theorem nw124_0_GConf (w : World) (n : Nat) (x : GStampStamper) (hn : n = w.heap.size) : get? GConf (w.alloc (.cells (GStampStamper.enc x).toArray 124)) ⟨n, 0, none⟩ = some x.c := by
  subst hn
  have h := (GStampStamper.at_c (get?_new (w := w) 124 x))
  simp only [Addr.add_lit, Nat.zero_add, Nat.reduceAdd] at h
  exact h
@[go_sem] theorem nl124_0 (x : GStampStamper) : x.enc[0]? = some (.int .i64 x.c.f) := by
  have h := (GConf.at_f (GStampStamper.at_c (get?_new (w := (default : World)) 124 x)))
  simp only [Addr.add_lit, Nat.zero_add, Nat.reduceAdd, World.cell?_alloc_new, List.getElem?_toArray] at h
  exact h
@[go_sem] theorem nl124_1 (x : GStampStamper) : x.enc[1]? = some (.int .i64 x.c.clients) := by
  have h := (GConf.at_clients (GStampStamper.at_c (get?_new (w := (default : World)) 124 x)))
  simp only [Addr.add_lit, Nat.zero_add, Nat.reduceAdd, World.cell?_alloc_new, List.getElem?_toArray] at h
  exact h
@[go_sem] theorem nl124_2 (x : GStampStamper) : x.enc[2]? = some (.int .i64 x.replica) := by
  have h := (GStampStamper.at_replica (get?_new (w := (default : World)) 124 x))
  simp only [Addr.add_lit, Nat.zero_add, Nat.reduceAdd, World.cell?_alloc_new, List.getElem?_toArray] at h
  exact h
@[go_sem] theorem nl124_3 (x : GStampStamper) : x.enc[3]? = some (.int .u64 x.now) := by
  have h := (GStampStamper.at_now (get?_new (w := (default : World)) 124 x))
  simp only [Addr.add_lit, Nat.zero_add, Nat.reduceAdd, World.cell?_alloc_new, List.getElem?_toArray] at h
  exact h
@[go_sem] theorem nl124_4 (x : GStampStamper) : x.enc[4]? = some (.int .u64 x.floor) := by
  have h := (GStampStamper.at_floor (get?_new (w := (default : World)) 124 x))
  simp only [Addr.add_lit, Nat.zero_add, Nat.reduceAdd, World.cell?_alloc_new, List.getElem?_toArray] at h
  exact h
@[go_sem] theorem nl124_5 (x : GStampStamper) : x.enc[5]? = some (.int .u64 x.last) := by
  have h := (GStampStamper.at_last (get?_new (w := (default : World)) 124 x))
  simp only [Addr.add_lit, Nat.zero_add, Nat.reduceAdd, World.cell?_alloc_new, List.getElem?_toArray] at h
  exact h
@[go_sem] theorem nl124_6 (x : GStampStamper) : x.enc[6]? = some (.map x.stamps) := by
  have h := (GStampStamper.at_stamps (get?_new (w := (default : World)) 124 x))
  simp only [Addr.add_lit, Nat.zero_add, Nat.reduceAdd, World.cell?_alloc_new, List.getElem?_toArray] at h
  exact h
@[go_sem] theorem nw124 (w : World) (n : Nat) (x : GStampStamper) (hn : n = w.heap.size) : get? GStampStamper (w.alloc (.cells (GStampStamper.enc x).toArray 124)) ⟨n, 0, none⟩ = some x := by
  subst hn; exact get?_new 124 x
theorem pl124 : ((Tryz.prog.fieldsOf 124).toList.mapM fun f => (Tryz.prog.info? f.type).map fun i => (f.offset, i.size)) = some [(0, 2), (2, 1), (3, 1), (4, 1), (5, 1), (6, 1)] := by kernel_rfl
theorem fs124_0 (x : GStampStamper) (v : GConf) (rest : List (Nat × Value)) : Instr.fill (fun i => ([(0, 2), (2, 1), (3, 1), (4, 1), (5, 1), (6, 1)] : List (Nat × Nat))[i]?) x.enc.toArray ((0, (v.val)) :: rest) = Instr.fill (fun i => ([(0, 2), (2, 1), (3, 1), (4, 1), (5, 1), (6, 1)] : List (Nat × Nat))[i]?) ({ x with c := v } : GStampStamper).enc.toArray rest := by
  have h := fill_seg [(0, 2), (2, 1), (3, 1), (4, 1), (5, 1), (6, 1)] 0 0 2 rfl (([] : List Value)) (x.c.enc) ([(.int .i64 x.replica)] ++ ([(.int .u64 x.now)] ++ ([(.int .u64 x.floor)] ++ ([(.int .u64 x.last)] ++ ([(.map x.stamps)] ++ (([] : List Value))))))) (v.enc) (v.val) rest (by rw [GConf.val_eq]; rfl) (by simp [GConf.enc_len]) (by simp [GConf.enc_len]) (by simp [GConf.enc_len])
  have e1 : x.enc = (([] : List Value)) ++ (x.c.enc ++ ([(.int .i64 x.replica)] ++ ([(.int .u64 x.now)] ++ ([(.int .u64 x.floor)] ++ ([(.int .u64 x.last)] ++ ([(.map x.stamps)] ++ (([] : List Value)))))))) := by simp only [GStampStamper.enc, List.nil_append, List.append_assoc, List.append_nil]
  have e2 : ({ x with c := v } : GStampStamper).enc = (([] : List Value)) ++ (v.enc ++ ([(.int .i64 x.replica)] ++ ([(.int .u64 x.now)] ++ ([(.int .u64 x.floor)] ++ ([(.int .u64 x.last)] ++ ([(.map x.stamps)] ++ (([] : List Value)))))))) := by simp only [GStampStamper.enc, List.nil_append, List.append_assoc, List.append_nil]
  rw [e1, e2]; exact h
theorem fs124_1 (x : GStampStamper) (v : Int) (rest : List (Nat × Value)) : Instr.fill (fun i => ([(0, 2), (2, 1), (3, 1), (4, 1), (5, 1), (6, 1)] : List (Nat × Nat))[i]?) x.enc.toArray ((1, (.int .i64 v)) :: rest) = Instr.fill (fun i => ([(0, 2), (2, 1), (3, 1), (4, 1), (5, 1), (6, 1)] : List (Nat × Nat))[i]?) ({ x with replica := v } : GStampStamper).enc.toArray rest := by
  have h := fill_seg [(0, 2), (2, 1), (3, 1), (4, 1), (5, 1), (6, 1)] 1 2 1 rfl (([] : List Value) ++ (x.c.enc)) ([(.int .i64 x.replica)]) ([(.int .u64 x.now)] ++ ([(.int .u64 x.floor)] ++ ([(.int .u64 x.last)] ++ ([(.map x.stamps)] ++ (([] : List Value)))))) ([(.int .i64 v)]) (.int .i64 v) rest (rfl) (by simp [GConf.enc_len]) (by simp [GConf.enc_len]) (by simp [GConf.enc_len])
  have e1 : x.enc = (([] : List Value) ++ (x.c.enc)) ++ ([(.int .i64 x.replica)] ++ ([(.int .u64 x.now)] ++ ([(.int .u64 x.floor)] ++ ([(.int .u64 x.last)] ++ ([(.map x.stamps)] ++ (([] : List Value))))))) := by simp only [GStampStamper.enc, List.nil_append, List.append_assoc, List.append_nil]
  have e2 : ({ x with replica := v } : GStampStamper).enc = (([] : List Value) ++ (x.c.enc)) ++ ([(.int .i64 v)] ++ ([(.int .u64 x.now)] ++ ([(.int .u64 x.floor)] ++ ([(.int .u64 x.last)] ++ ([(.map x.stamps)] ++ (([] : List Value))))))) := by simp only [GStampStamper.enc, List.nil_append, List.append_assoc, List.append_nil]
  rw [e1, e2]; exact h
theorem fs124_5 (x : GStampStamper) (v : Option Nat) (rest : List (Nat × Value)) : Instr.fill (fun i => ([(0, 2), (2, 1), (3, 1), (4, 1), (5, 1), (6, 1)] : List (Nat × Nat))[i]?) x.enc.toArray ((5, (.map v)) :: rest) = Instr.fill (fun i => ([(0, 2), (2, 1), (3, 1), (4, 1), (5, 1), (6, 1)] : List (Nat × Nat))[i]?) ({ x with stamps := v } : GStampStamper).enc.toArray rest := by
  have h := fill_seg [(0, 2), (2, 1), (3, 1), (4, 1), (5, 1), (6, 1)] 5 6 1 rfl (([] : List Value) ++ (x.c.enc ++ ([(.int .i64 x.replica)] ++ ([(.int .u64 x.now)] ++ ([(.int .u64 x.floor)] ++ ([(.int .u64 x.last)])))))) ([(.map x.stamps)]) (([] : List Value)) ([(.map v)]) (.map v) rest (rfl) (by simp [GConf.enc_len]) (by simp [GConf.enc_len]) (by simp [GConf.enc_len])
  have e1 : x.enc = (([] : List Value) ++ (x.c.enc ++ ([(.int .i64 x.replica)] ++ ([(.int .u64 x.now)] ++ ([(.int .u64 x.floor)] ++ ([(.int .u64 x.last)])))))) ++ ([(.map x.stamps)] ++ (([] : List Value))) := by simp only [GStampStamper.enc, List.nil_append, List.append_assoc, List.append_nil]
  have e2 : ({ x with stamps := v } : GStampStamper).enc = (([] : List Value) ++ (x.c.enc ++ ([(.int .i64 x.replica)] ++ ([(.int .u64 x.now)] ++ ([(.int .u64 x.floor)] ++ ([(.int .u64 x.last)])))))) ++ ([(.map v)] ++ (([] : List Value))) := by simp only [GStampStamper.enc, List.nil_append, List.append_assoc, List.append_nil]
  rw [e1, e2]; exact h
@[go_sem ↓ high] theorem xd_GStampStamper (ρ : Operand → Value) (dst : Option Tmp) (ps : Array (Nat × Operand)) (ty : TypeId) (pos : String) (after : Array Edge) (guard : Option (Nat × Bool)) : execOp ρ { dst, op := .build 124 ps, type := ty, pos, after, guard } = (do pure (.value (← gBuild 124 (ps.map fun (i, x) => (i, ρ x))))) := ex_build ..
@[go_sem ↓ high] theorem bd124_0 (w : World) (v0 : GConf) (v1 : Int) (v5 : Option Nat) : (gBuild 124 #[(0, (v0.val)), (1, (.int .i64 v1)), (5, (.map v5))]).run Tryz.prog w = .ok (GStampStamper.val ⟨v0, v1, 0, 0, 0, v5⟩) w := by
  rw [GStampStamper.val_eq]
  refine run_gBuild_of uu124 zr124 pl124 ?_ w
  show Instr.fill _ (GStampStamper.enc default).toArray [(0, (v0.val)), (1, (.int .i64 v1)), (5, (.map v5))] = _
  rw [fs124_0, fs124_1, fs124_5]; rfl

/-! ### gavel/lock.Table -/
structure GLockTable where
  c : GConf
  replica : Int
  held : Option Nat
deriving DecidableEq
instance : Inhabited GLockTable := ⟨⟨default, 0, none⟩⟩
def GLockTable.enc (x : GLockTable) : List Value := x.c.enc ++ ([(.int .i64 x.replica)] ++ ([(.map x.held)]))
theorem GLockTable.enc_len (x : GLockTable) : x.enc.length = 4 := by simp [GLockTable.enc, GConf.enc_len]
theorem GLockTable.enc_one (x : GLockTable) : ∀ u ∈ x.enc, u.oneCell' = true := by
  intro u hu
  simp only [GLockTable.enc, List.mem_append, List.mem_singleton] at hu
  rcases hu with hu | hu | hu
  · exact Enc.one (α := GConf) _ _ hu
  · subst hu; rfl
  · subst hu; rfl
theorem GLockTable.enc_inj (x y : GLockTable) (h : x.enc = y.enc) : x = y := by
  obtain ⟨a0, a1, a2⟩ := x
  obtain ⟨b0, b1, b2⟩ := y
  simp only [GLockTable.enc] at h
  obtain ⟨p0, q0⟩ := List.append_inj h (by simp [GConf.enc_len])
  have e0 := Enc.inj (α := GConf) _ _ p0
  obtain ⟨p1, q1⟩ := List.append_inj q0 (rfl)
  have e1 : a1 = b1 := by have := List.head_eq_of_cons_eq p1; injection this
  have e2 : a2 = b2 := by have := List.head_eq_of_cons_eq q1; injection this
  rw [e0, e1, e2]
instance : Enc GLockTable where
  n := 4
  enc := GLockTable.enc
  pos := by omega
  len := GLockTable.enc_len
  one := GLockTable.enc_one
  inj := GLockTable.enc_inj
@[go_sem] theorem GLockTable.n_eq : Enc.n GLockTable = 4 := rfl
@[irreducible] def GLockTable.val (x : GLockTable) : Value := .agg x.enc.toArray
theorem GLockTable.val_eq (x : GLockTable) : GLockTable.val x = .agg (Enc.enc x).toArray := by unfold GLockTable.val; rfl
theorem GLockTable.ext_all (x y : GLockTable) : x = y ↔ x.c = y.c ∧ x.replica = y.replica ∧ x.held = y.held := by
  constructor
  · intro h; cases h; simp
  · intro h; cases x; cases y; simp_all
theorem uu127 : Tryz.prog.underlying 127 = some (.struct (Tryz.prog.fieldsOf 127)) := by kernel_rfl
theorem st127 : Tryz.prog.stoodInHeld 127 = false := by kernel_rfl
theorem fl127 : fieldTO Tryz.prog 127 = [(23, 0), (3, 2), (125, 3)] := by kernel_rfl
theorem nb127 : noBlank Tryz.prog 127 = true := by kernel_rfl
@[go_sem ↓ high] theorem xl_GLockTable (ρ : Operand → Value) (dst : Option Tmp) (x : Operand) (ty : TypeId) (pos : String) (after : Array Edge) (guard : Option (Nat × Bool)) : execOp ρ { dst, op := .load 127 x, type := ty, pos, after, guard } = (do pure (.value (← gLoad 127 (ρ x)))) := ex_load ..
@[go_sem ↓ high] theorem xs_GLockTable (ρ : Operand → Value) (dst : Option Tmp) (x y : Operand) (ty : TypeId) (pos : String) (after : Array Edge) (guard : Option (Nat × Bool)) : execOp ρ { dst, op := .store 127 x y, type := ty, pos, after, guard } = (do gStore 127 (ρ x) (ρ y); pure .skip) := ex_store ..
@[go_sem ↓ high] theorem xb_GLockTable (ρ : Operand → Value) (dst : Option Tmp) (x : Operand) (ty : TypeId) (pos : String) (after : Array Edge) (guard : Option (Nat × Bool)) : execOp ρ { dst, op := .box 127 x, type := ty, pos, after, guard } = (do pure (.value (← gBox 127 (ρ x)))) := ex_box ..
@[go_sem ↓ high] theorem xa_GLockTable (ρ : Operand → Value) (dst : Option Tmp) (ty : TypeId) (pos : String) (after : Array Edge) (guard : Option (Nat × Bool)) : execOp ρ { dst, op := .alloc 127, type := ty, pos, after, guard } = (do pure (.value (← gAlloc 127))) := ex_alloc ..
theorem ag127 : aggT Tryz.prog 127 = true := by kernel_rfl
theorem sz127 : sizeT Tryz.prog 127 = 4 := by kernel_rfl
section
variable (w : World)
@[go_sem ↓ high] theorem ld_GLockTable (a : Addr) : (gLoad 127 (.pointer (some a))).run Tryz.prog w = ofOpt ((get? GLockTable w a).map GLockTable.val) w (noLoad Tryz.prog 127 a w) := by
  unfold gLoad; exact run_loadAt_opt ag127 sz127 GLockTable.val GLockTable.val_eq
@[go_sem ↓ high] theorem st_GLockTable (a : Addr) (x : GLockTable) : (gStore 127 (.pointer (some a)) (GLockTable.val x)).run Tryz.prog w = okU' ((get? GLockTable w a).isSome && blkFree w a.block) (World.putCells w a (GLockTable.enc x)) (noStore Tryz.prog 127 (.pointer (some a)) (GLockTable.val x) w) := run_gStore_any sz127 GLockTable.val GLockTable.val_eq w a x
@[go_sem ↓ high] theorem bx_GLockTable (x : GLockTable) : (gBox 127 (GLockTable.val x)).run Tryz.prog w = .ok (.pointer (some ⟨w.heap.size, 0, none⟩)) (w.alloc (.cells (GLockTable.enc x).toArray 127)) := by
  rw [GLockTable.val_eq]; exact run_gBox _ w
end
theorem ds127_0 (x : GLockTable) : (x.enc.drop 0).take 2 = x.c.enc := by
  unfold GLockTable.enc
  simp only [List.drop_zero] <;> (rw [List.take_append_of_le_length (by simp [GConf.enc_len])]; exact List.take_of_length_le (by simp [GConf.enc_len]))
theorem pt127_0 (w : World) (x : GLockTable) : (part 23 x.enc.toArray 0).run Tryz.prog w = .ok (x.c.val) w := by
  have h := run_part_agg (P := Tryz.prog) (w := w) (cs := x.enc) (ds := x.c.enc) (off := 0) ag23 (by rw [GConf.enc_len]; exact sz23) (by simp [GConf.enc_len]) (by rw [GConf.enc_len]; exact ds127_0 x)
  rw [h, GConf.val_eq]; rfl
@[go_sem ↓ high] theorem fd127_0 (w : World) (x : GLockTable) : (gField 127 (GLockTable.val x) 0).run Tryz.prog w = .ok (x.c.val) w := by
  rw [GLockTable.val_eq]
  exact run_gField w uu127 (by rw [fl127]; rfl) (pt127_0 w x)
theorem lk127_1 (x : GLockTable) : x.enc[2]? = some (.int .i64 x.replica) := by
  simp [GLockTable.enc, List.getElem?_append, GConf.enc_len]
theorem pt127_1 (w : World) (x : GLockTable) : (part 3 x.enc.toArray 2).run Tryz.prog w = .ok (.int .i64 x.replica) w := run_part_one na3 us3 (lk127_1 x)
@[go_sem ↓ high] theorem fd127_1 (w : World) (x : GLockTable) : (gField 127 (GLockTable.val x) 1).run Tryz.prog w = .ok (.int .i64 x.replica) w := by
  rw [GLockTable.val_eq]
  exact run_gField w uu127 (by rw [fl127]; rfl) (pt127_1 w x)
theorem lk127_2 (x : GLockTable) : x.enc[3]? = some (.map x.held) := by
  simp [GLockTable.enc, List.getElem?_append, GConf.enc_len]
theorem pt127_2 (w : World) (x : GLockTable) : (part 125 x.enc.toArray 3).run Tryz.prog w = .ok (.map x.held) w := run_part_one na125 us125 (lk127_2 x)
@[go_sem ↓ high] theorem fd127_2 (w : World) (x : GLockTable) : (gField 127 (GLockTable.val x) 2).run Tryz.prog w = .ok (.map x.held) w := by
  rw [GLockTable.val_eq]
  exact run_gField w uu127 (by rw [fl127]; rfl) (pt127_2 w x)
@[go_sem ↓ high] theorem xf_GLockTable (ρ : Operand → Value) (dst : Option Tmp) (x : Operand) (i : Nat) (ty : TypeId) (pos : String) (after : Array Edge) (guard : Option (Nat × Bool)) : execOp ρ { dst, op := .field 127 x i, type := ty, pos, after, guard } = (do pure (.value (← gField 127 (ρ x) i))) := ex_field ..
theorem zr127 : zeroT Tryz.prog 127 = some (.agg (GLockTable.enc default).toArray) := by kernel_rfl
@[go_sem ↓ high] theorem al_GLockTable (w : World) : (gAlloc 127).run Tryz.prog w = .ok (.pointer (some ⟨w.heap.size, 0, none⟩)) (w.alloc (.cells (GLockTable.enc default).toArray 127)) := run_zero_alloc zr127 w
@[go_sem] theorem pc_GLockTable (w : World) (n : Nat) (x z : GLockTable) (hn : n = w.heap.size) : World.putCells (w.alloc (.cells (GLockTable.enc z).toArray 127)) ⟨n, 0, none⟩ (GLockTable.enc x) = w.alloc (.cells (GLockTable.enc x).toArray 127) := putCells_top x z hn
theorem GLockTable.at_c {w : World} {a : Addr} {x : GLockTable} (h : get? GLockTable w a = some x) : get? GConf w (a.add 0) = some x.c := by
  rw [get?_iff] at h ⊢
  refine h.sub 0 fun j v hv => ?_
  have hd := ds127_0 x
  have hj : j < 2 := by have := (List.getElem?_eq_some_iff.1 hv).1; rwa [Enc.len] at this
  show x.enc[0 + j]? = some v
  rw [← List.getElem?_drop, ← List.getElem?_take_of_lt hj, hd]; exact hv
theorem GLockTable.at_replica {w : World} {a : Addr} {x : GLockTable} (h : get? GLockTable w a = some x) : w.cell? (a.add 2) = some (.int .i64 x.replica) := (get?_iff.1 h) _ _ (lk127_1 x)
theorem GLockTable.at_held {w : World} {a : Addr} {x : GLockTable} (h : get? GLockTable w a = some x) : w.cell? (a.add 3) = some (.map x.held) := (get?_iff.1 h) _ _ (lk127_2 x)
@[go_sem] theorem nw127_0_GConf (w : World) (n : Nat) (x : GLockTable) (hn : n = w.heap.size) : get? GConf (w.alloc (.cells (GLockTable.enc x).toArray 127)) ⟨n, 0, none⟩ = some x.c := by
  subst hn
  have h := (GLockTable.at_c (get?_new (w := w) 127 x))
  simp only [Addr.add_lit, Nat.zero_add, Nat.reduceAdd] at h
  exact h
@[go_sem] theorem nl127_0 (x : GLockTable) : x.enc[0]? = some (.int .i64 x.c.f) := by
  have h := (GConf.at_f (GLockTable.at_c (get?_new (w := (default : World)) 127 x)))
  simp only [Addr.add_lit, Nat.zero_add, Nat.reduceAdd, World.cell?_alloc_new, List.getElem?_toArray] at h
  exact h
@[go_sem] theorem nl127_1 (x : GLockTable) : x.enc[1]? = some (.int .i64 x.c.clients) := by
  have h := (GConf.at_clients (GLockTable.at_c (get?_new (w := (default : World)) 127 x)))
  simp only [Addr.add_lit, Nat.zero_add, Nat.reduceAdd, World.cell?_alloc_new, List.getElem?_toArray] at h
  exact h
@[go_sem] theorem nl127_2 (x : GLockTable) : x.enc[2]? = some (.int .i64 x.replica) := by
  have h := (GLockTable.at_replica (get?_new (w := (default : World)) 127 x))
  simp only [Addr.add_lit, Nat.zero_add, Nat.reduceAdd, World.cell?_alloc_new, List.getElem?_toArray] at h
  exact h
@[go_sem] theorem nl127_3 (x : GLockTable) : x.enc[3]? = some (.map x.held) := by
  have h := (GLockTable.at_held (get?_new (w := (default : World)) 127 x))
  simp only [Addr.add_lit, Nat.zero_add, Nat.reduceAdd, World.cell?_alloc_new, List.getElem?_toArray] at h
  exact h
@[go_sem] theorem nw127 (w : World) (n : Nat) (x : GLockTable) (hn : n = w.heap.size) : get? GLockTable (w.alloc (.cells (GLockTable.enc x).toArray 127)) ⟨n, 0, none⟩ = some x := by
  subst hn; exact get?_new 127 x
theorem pl127 : ((Tryz.prog.fieldsOf 127).toList.mapM fun f => (Tryz.prog.info? f.type).map fun i => (f.offset, i.size)) = some [(0, 2), (2, 1), (3, 1)] := by kernel_rfl
theorem fs127_0 (x : GLockTable) (v : GConf) (rest : List (Nat × Value)) : Instr.fill (fun i => ([(0, 2), (2, 1), (3, 1)] : List (Nat × Nat))[i]?) x.enc.toArray ((0, (v.val)) :: rest) = Instr.fill (fun i => ([(0, 2), (2, 1), (3, 1)] : List (Nat × Nat))[i]?) ({ x with c := v } : GLockTable).enc.toArray rest := by
  have h := fill_seg [(0, 2), (2, 1), (3, 1)] 0 0 2 rfl (([] : List Value)) (x.c.enc) ([(.int .i64 x.replica)] ++ ([(.map x.held)] ++ (([] : List Value)))) (v.enc) (v.val) rest (by rw [GConf.val_eq]; rfl) (by simp [GConf.enc_len]) (by simp [GConf.enc_len]) (by simp [GConf.enc_len])
  have e1 : x.enc = (([] : List Value)) ++ (x.c.enc ++ ([(.int .i64 x.replica)] ++ ([(.map x.held)] ++ (([] : List Value))))) := by simp only [GLockTable.enc, List.nil_append, List.append_assoc, List.append_nil]
  have e2 : ({ x with c := v } : GLockTable).enc = (([] : List Value)) ++ (v.enc ++ ([(.int .i64 x.replica)] ++ ([(.map x.held)] ++ (([] : List Value))))) := by simp only [GLockTable.enc, List.nil_append, List.append_assoc, List.append_nil]
  rw [e1, e2]; exact h
theorem fs127_1 (x : GLockTable) (v : Int) (rest : List (Nat × Value)) : Instr.fill (fun i => ([(0, 2), (2, 1), (3, 1)] : List (Nat × Nat))[i]?) x.enc.toArray ((1, (.int .i64 v)) :: rest) = Instr.fill (fun i => ([(0, 2), (2, 1), (3, 1)] : List (Nat × Nat))[i]?) ({ x with replica := v } : GLockTable).enc.toArray rest := by
  have h := fill_seg [(0, 2), (2, 1), (3, 1)] 1 2 1 rfl (([] : List Value) ++ (x.c.enc)) ([(.int .i64 x.replica)]) ([(.map x.held)] ++ (([] : List Value))) ([(.int .i64 v)]) (.int .i64 v) rest (rfl) (by simp [GConf.enc_len]) (by simp [GConf.enc_len]) (by simp [GConf.enc_len])
  have e1 : x.enc = (([] : List Value) ++ (x.c.enc)) ++ ([(.int .i64 x.replica)] ++ ([(.map x.held)] ++ (([] : List Value)))) := by simp only [GLockTable.enc, List.nil_append, List.append_assoc, List.append_nil]
  have e2 : ({ x with replica := v } : GLockTable).enc = (([] : List Value) ++ (x.c.enc)) ++ ([(.int .i64 v)] ++ ([(.map x.held)] ++ (([] : List Value)))) := by simp only [GLockTable.enc, List.nil_append, List.append_assoc, List.append_nil]
  rw [e1, e2]; exact h
theorem fs127_2 (x : GLockTable) (v : Option Nat) (rest : List (Nat × Value)) : Instr.fill (fun i => ([(0, 2), (2, 1), (3, 1)] : List (Nat × Nat))[i]?) x.enc.toArray ((2, (.map v)) :: rest) = Instr.fill (fun i => ([(0, 2), (2, 1), (3, 1)] : List (Nat × Nat))[i]?) ({ x with held := v } : GLockTable).enc.toArray rest := by
  have h := fill_seg [(0, 2), (2, 1), (3, 1)] 2 3 1 rfl (([] : List Value) ++ (x.c.enc ++ ([(.int .i64 x.replica)]))) ([(.map x.held)]) (([] : List Value)) ([(.map v)]) (.map v) rest (rfl) (by simp [GConf.enc_len]) (by simp [GConf.enc_len]) (by simp [GConf.enc_len])
  have e1 : x.enc = (([] : List Value) ++ (x.c.enc ++ ([(.int .i64 x.replica)]))) ++ ([(.map x.held)] ++ (([] : List Value))) := by simp only [GLockTable.enc, List.nil_append, List.append_assoc, List.append_nil]
  have e2 : ({ x with held := v } : GLockTable).enc = (([] : List Value) ++ (x.c.enc ++ ([(.int .i64 x.replica)]))) ++ ([(.map v)] ++ (([] : List Value))) := by simp only [GLockTable.enc, List.nil_append, List.append_assoc, List.append_nil]
  rw [e1, e2]; exact h
@[go_sem ↓ high] theorem xd_GLockTable (ρ : Operand → Value) (dst : Option Tmp) (ps : Array (Nat × Operand)) (ty : TypeId) (pos : String) (after : Array Edge) (guard : Option (Nat × Bool)) : execOp ρ { dst, op := .build 127 ps, type := ty, pos, after, guard } = (do pure (.value (← gBuild 127 (ps.map fun (i, x) => (i, ρ x))))) := ex_build ..
@[go_sem ↓ high] theorem bd127_0 (w : World) (v0 : GConf) (v1 : Int) (v2 : Option Nat) : (gBuild 127 #[(0, (v0.val)), (1, (.int .i64 v1)), (2, (.map v2))]).run Tryz.prog w = .ok (GLockTable.val ⟨v0, v1, v2⟩) w := by
  rw [GLockTable.val_eq]
  refine run_gBuild_of uu127 zr127 pl127 ?_ w
  show Instr.fill _ (GLockTable.enc default).toArray [(0, (v0.val)), (1, (.int .i64 v1)), (2, (.map v2))] = _
  rw [fs127_0, fs127_1, fs127_2]; rfl

/-! ### gavel/reveal.Reveal -/
structure GRevealReveal where
  c : GConf
  replica : Int
  m : Option Nat
deriving DecidableEq
instance : Inhabited GRevealReveal := ⟨⟨default, 0, none⟩⟩
def GRevealReveal.enc (x : GRevealReveal) : List Value := x.c.enc ++ ([(.int .i64 x.replica)] ++ ([(.map x.m)]))
theorem GRevealReveal.enc_len (x : GRevealReveal) : x.enc.length = 4 := by simp [GRevealReveal.enc, GConf.enc_len]
theorem GRevealReveal.enc_one (x : GRevealReveal) : ∀ u ∈ x.enc, u.oneCell' = true := by
  intro u hu
  simp only [GRevealReveal.enc, List.mem_append, List.mem_singleton] at hu
  rcases hu with hu | hu | hu
  · exact Enc.one (α := GConf) _ _ hu
  · subst hu; rfl
  · subst hu; rfl
theorem GRevealReveal.enc_inj (x y : GRevealReveal) (h : x.enc = y.enc) : x = y := by
  obtain ⟨a0, a1, a2⟩ := x
  obtain ⟨b0, b1, b2⟩ := y
  simp only [GRevealReveal.enc] at h
  obtain ⟨p0, q0⟩ := List.append_inj h (by simp [GConf.enc_len])
  have e0 := Enc.inj (α := GConf) _ _ p0
  obtain ⟨p1, q1⟩ := List.append_inj q0 (rfl)
  have e1 : a1 = b1 := by have := List.head_eq_of_cons_eq p1; injection this
  have e2 : a2 = b2 := by have := List.head_eq_of_cons_eq q1; injection this
  rw [e0, e1, e2]
instance : Enc GRevealReveal where
  n := 4
  enc := GRevealReveal.enc
  pos := by omega
  len := GRevealReveal.enc_len
  one := GRevealReveal.enc_one
  inj := GRevealReveal.enc_inj
@[go_sem] theorem GRevealReveal.n_eq : Enc.n GRevealReveal = 4 := rfl
@[irreducible] def GRevealReveal.val (x : GRevealReveal) : Value := .agg x.enc.toArray
theorem GRevealReveal.val_eq (x : GRevealReveal) : GRevealReveal.val x = .agg (Enc.enc x).toArray := by unfold GRevealReveal.val; rfl
theorem GRevealReveal.ext_all (x y : GRevealReveal) : x = y ↔ x.c = y.c ∧ x.replica = y.replica ∧ x.m = y.m := by
  constructor
  · intro h; cases h; simp
  · intro h; cases x; cases y; simp_all
theorem uu130 : Tryz.prog.underlying 130 = some (.struct (Tryz.prog.fieldsOf 130)) := by kernel_rfl
theorem st130 : Tryz.prog.stoodInHeld 130 = false := by kernel_rfl
theorem fl130 : fieldTO Tryz.prog 130 = [(23, 0), (3, 2), (128, 3)] := by kernel_rfl
theorem nb130 : noBlank Tryz.prog 130 = true := by kernel_rfl
@[go_sem ↓ high] theorem xl_GRevealReveal (ρ : Operand → Value) (dst : Option Tmp) (x : Operand) (ty : TypeId) (pos : String) (after : Array Edge) (guard : Option (Nat × Bool)) : execOp ρ { dst, op := .load 130 x, type := ty, pos, after, guard } = (do pure (.value (← gLoad 130 (ρ x)))) := ex_load ..
@[go_sem ↓ high] theorem xs_GRevealReveal (ρ : Operand → Value) (dst : Option Tmp) (x y : Operand) (ty : TypeId) (pos : String) (after : Array Edge) (guard : Option (Nat × Bool)) : execOp ρ { dst, op := .store 130 x y, type := ty, pos, after, guard } = (do gStore 130 (ρ x) (ρ y); pure .skip) := ex_store ..
@[go_sem ↓ high] theorem xb_GRevealReveal (ρ : Operand → Value) (dst : Option Tmp) (x : Operand) (ty : TypeId) (pos : String) (after : Array Edge) (guard : Option (Nat × Bool)) : execOp ρ { dst, op := .box 130 x, type := ty, pos, after, guard } = (do pure (.value (← gBox 130 (ρ x)))) := ex_box ..
@[go_sem ↓ high] theorem xa_GRevealReveal (ρ : Operand → Value) (dst : Option Tmp) (ty : TypeId) (pos : String) (after : Array Edge) (guard : Option (Nat × Bool)) : execOp ρ { dst, op := .alloc 130, type := ty, pos, after, guard } = (do pure (.value (← gAlloc 130))) := ex_alloc ..
theorem ag130 : aggT Tryz.prog 130 = true := by kernel_rfl
theorem sz130 : sizeT Tryz.prog 130 = 4 := by kernel_rfl
section
variable (w : World)
@[go_sem ↓ high] theorem ld_GRevealReveal (a : Addr) : (gLoad 130 (.pointer (some a))).run Tryz.prog w = ofOpt ((get? GRevealReveal w a).map GRevealReveal.val) w (noLoad Tryz.prog 130 a w) := by
  unfold gLoad; exact run_loadAt_opt ag130 sz130 GRevealReveal.val GRevealReveal.val_eq
@[go_sem ↓ high] theorem st_GRevealReveal (a : Addr) (x : GRevealReveal) : (gStore 130 (.pointer (some a)) (GRevealReveal.val x)).run Tryz.prog w = okU' ((get? GRevealReveal w a).isSome && blkFree w a.block) (World.putCells w a (GRevealReveal.enc x)) (noStore Tryz.prog 130 (.pointer (some a)) (GRevealReveal.val x) w) := run_gStore_any sz130 GRevealReveal.val GRevealReveal.val_eq w a x
@[go_sem ↓ high] theorem bx_GRevealReveal (x : GRevealReveal) : (gBox 130 (GRevealReveal.val x)).run Tryz.prog w = .ok (.pointer (some ⟨w.heap.size, 0, none⟩)) (w.alloc (.cells (GRevealReveal.enc x).toArray 130)) := by
  rw [GRevealReveal.val_eq]; exact run_gBox _ w
end
theorem ds130_0 (x : GRevealReveal) : (x.enc.drop 0).take 2 = x.c.enc := by
  unfold GRevealReveal.enc
  simp only [List.drop_zero] <;> (rw [List.take_append_of_le_length (by simp [GConf.enc_len])]; exact List.take_of_length_le (by simp [GConf.enc_len]))
theorem pt130_0 (w : World) (x : GRevealReveal) : (part 23 x.enc.toArray 0).run Tryz.prog w = .ok (x.c.val) w := by
  have h := run_part_agg (P := Tryz.prog) (w := w) (cs := x.enc) (ds := x.c.enc) (off := 0) ag23 (by rw [GConf.enc_len]; exact sz23) (by simp [GConf.enc_len]) (by rw [GConf.enc_len]; exact ds130_0 x)
  rw [h, GConf.val_eq]; rfl
@[go_sem ↓ high] theorem fd130_0 (w : World) (x : GRevealReveal) : (gField 130 (GRevealReveal.val x) 0).run Tryz.prog w = .ok (x.c.val) w := by
  rw [GRevealReveal.val_eq]
  exact run_gField w uu130 (by rw [fl130]; rfl) (pt130_0 w x)
theorem lk130_1 (x : GRevealReveal) : x.enc[2]? = some (.int .i64 x.replica) := by
  simp [GRevealReveal.enc, List.getElem?_append, GConf.enc_len]
theorem pt130_1 (w : World) (x : GRevealReveal) : (part 3 x.enc.toArray 2).run Tryz.prog w = .ok (.int .i64 x.replica) w := run_part_one na3 us3 (lk130_1 x)
@[go_sem ↓ high] theorem fd130_1 (w : World) (x : GRevealReveal) : (gField 130 (GRevealReveal.val x) 1).run Tryz.prog w = .ok (.int .i64 x.replica) w := by
  rw [GRevealReveal.val_eq]
  exact run_gField w uu130 (by rw [fl130]; rfl) (pt130_1 w x)
theorem lk130_2 (x : GRevealReveal) : x.enc[3]? = some (.map x.m) := by
  simp [GRevealReveal.enc, List.getElem?_append, GConf.enc_len]
theorem pt130_2 (w : World) (x : GRevealReveal) : (part 128 x.enc.toArray 3).run Tryz.prog w = .ok (.map x.m) w := run_part_one na128 us128 (lk130_2 x)
@[go_sem ↓ high] theorem fd130_2 (w : World) (x : GRevealReveal) : (gField 130 (GRevealReveal.val x) 2).run Tryz.prog w = .ok (.map x.m) w := by
  rw [GRevealReveal.val_eq]
  exact run_gField w uu130 (by rw [fl130]; rfl) (pt130_2 w x)
@[go_sem ↓ high] theorem xf_GRevealReveal (ρ : Operand → Value) (dst : Option Tmp) (x : Operand) (i : Nat) (ty : TypeId) (pos : String) (after : Array Edge) (guard : Option (Nat × Bool)) : execOp ρ { dst, op := .field 130 x i, type := ty, pos, after, guard } = (do pure (.value (← gField 130 (ρ x) i))) := ex_field ..
theorem zr130 : zeroT Tryz.prog 130 = some (.agg (GRevealReveal.enc default).toArray) := by kernel_rfl
@[go_sem ↓ high] theorem al_GRevealReveal (w : World) : (gAlloc 130).run Tryz.prog w = .ok (.pointer (some ⟨w.heap.size, 0, none⟩)) (w.alloc (.cells (GRevealReveal.enc default).toArray 130)) := run_zero_alloc zr130 w
@[go_sem] theorem pc_GRevealReveal (w : World) (n : Nat) (x z : GRevealReveal) (hn : n = w.heap.size) : World.putCells (w.alloc (.cells (GRevealReveal.enc z).toArray 130)) ⟨n, 0, none⟩ (GRevealReveal.enc x) = w.alloc (.cells (GRevealReveal.enc x).toArray 130) := putCells_top x z hn
theorem GRevealReveal.at_c {w : World} {a : Addr} {x : GRevealReveal} (h : get? GRevealReveal w a = some x) : get? GConf w (a.add 0) = some x.c := by
  rw [get?_iff] at h ⊢
  refine h.sub 0 fun j v hv => ?_
  have hd := ds130_0 x
  have hj : j < 2 := by have := (List.getElem?_eq_some_iff.1 hv).1; rwa [Enc.len] at this
  show x.enc[0 + j]? = some v
  rw [← List.getElem?_drop, ← List.getElem?_take_of_lt hj, hd]; exact hv
theorem GRevealReveal.at_replica {w : World} {a : Addr} {x : GRevealReveal} (h : get? GRevealReveal w a = some x) : w.cell? (a.add 2) = some (.int .i64 x.replica) := (get?_iff.1 h) _ _ (lk130_1 x)
theorem GRevealReveal.at_m {w : World} {a : Addr} {x : GRevealReveal} (h : get? GRevealReveal w a = some x) : w.cell? (a.add 3) = some (.map x.m) := (get?_iff.1 h) _ _ (lk130_2 x)
@[go_sem] theorem nw130_0_GConf (w : World) (n : Nat) (x : GRevealReveal) (hn : n = w.heap.size) : get? GConf (w.alloc (.cells (GRevealReveal.enc x).toArray 130)) ⟨n, 0, none⟩ = some x.c := by
  subst hn
  have h := (GRevealReveal.at_c (get?_new (w := w) 130 x))
  simp only [Addr.add_lit, Nat.zero_add, Nat.reduceAdd] at h
  exact h
@[go_sem] theorem nl130_0 (x : GRevealReveal) : x.enc[0]? = some (.int .i64 x.c.f) := by
  have h := (GConf.at_f (GRevealReveal.at_c (get?_new (w := (default : World)) 130 x)))
  simp only [Addr.add_lit, Nat.zero_add, Nat.reduceAdd, World.cell?_alloc_new, List.getElem?_toArray] at h
  exact h
@[go_sem] theorem nl130_1 (x : GRevealReveal) : x.enc[1]? = some (.int .i64 x.c.clients) := by
  have h := (GConf.at_clients (GRevealReveal.at_c (get?_new (w := (default : World)) 130 x)))
  simp only [Addr.add_lit, Nat.zero_add, Nat.reduceAdd, World.cell?_alloc_new, List.getElem?_toArray] at h
  exact h
@[go_sem] theorem nl130_2 (x : GRevealReveal) : x.enc[2]? = some (.int .i64 x.replica) := by
  have h := (GRevealReveal.at_replica (get?_new (w := (default : World)) 130 x))
  simp only [Addr.add_lit, Nat.zero_add, Nat.reduceAdd, World.cell?_alloc_new, List.getElem?_toArray] at h
  exact h
@[go_sem] theorem nl130_3 (x : GRevealReveal) : x.enc[3]? = some (.map x.m) := by
  have h := (GRevealReveal.at_m (get?_new (w := (default : World)) 130 x))
  simp only [Addr.add_lit, Nat.zero_add, Nat.reduceAdd, World.cell?_alloc_new, List.getElem?_toArray] at h
  exact h
@[go_sem] theorem nw130 (w : World) (n : Nat) (x : GRevealReveal) (hn : n = w.heap.size) : get? GRevealReveal (w.alloc (.cells (GRevealReveal.enc x).toArray 130)) ⟨n, 0, none⟩ = some x := by
  subst hn; exact get?_new 130 x
theorem pl130 : ((Tryz.prog.fieldsOf 130).toList.mapM fun f => (Tryz.prog.info? f.type).map fun i => (f.offset, i.size)) = some [(0, 2), (2, 1), (3, 1)] := by kernel_rfl
theorem fs130_0 (x : GRevealReveal) (v : GConf) (rest : List (Nat × Value)) : Instr.fill (fun i => ([(0, 2), (2, 1), (3, 1)] : List (Nat × Nat))[i]?) x.enc.toArray ((0, (v.val)) :: rest) = Instr.fill (fun i => ([(0, 2), (2, 1), (3, 1)] : List (Nat × Nat))[i]?) ({ x with c := v } : GRevealReveal).enc.toArray rest := by
  have h := fill_seg [(0, 2), (2, 1), (3, 1)] 0 0 2 rfl (([] : List Value)) (x.c.enc) ([(.int .i64 x.replica)] ++ ([(.map x.m)] ++ (([] : List Value)))) (v.enc) (v.val) rest (by rw [GConf.val_eq]; rfl) (by simp [GConf.enc_len]) (by simp [GConf.enc_len]) (by simp [GConf.enc_len])
  have e1 : x.enc = (([] : List Value)) ++ (x.c.enc ++ ([(.int .i64 x.replica)] ++ ([(.map x.m)] ++ (([] : List Value))))) := by simp only [GRevealReveal.enc, List.nil_append, List.append_assoc, List.append_nil]
  have e2 : ({ x with c := v } : GRevealReveal).enc = (([] : List Value)) ++ (v.enc ++ ([(.int .i64 x.replica)] ++ ([(.map x.m)] ++ (([] : List Value))))) := by simp only [GRevealReveal.enc, List.nil_append, List.append_assoc, List.append_nil]
  rw [e1, e2]; exact h
theorem fs130_1 (x : GRevealReveal) (v : Int) (rest : List (Nat × Value)) : Instr.fill (fun i => ([(0, 2), (2, 1), (3, 1)] : List (Nat × Nat))[i]?) x.enc.toArray ((1, (.int .i64 v)) :: rest) = Instr.fill (fun i => ([(0, 2), (2, 1), (3, 1)] : List (Nat × Nat))[i]?) ({ x with replica := v } : GRevealReveal).enc.toArray rest := by
  have h := fill_seg [(0, 2), (2, 1), (3, 1)] 1 2 1 rfl (([] : List Value) ++ (x.c.enc)) ([(.int .i64 x.replica)]) ([(.map x.m)] ++ (([] : List Value))) ([(.int .i64 v)]) (.int .i64 v) rest (rfl) (by simp [GConf.enc_len]) (by simp [GConf.enc_len]) (by simp [GConf.enc_len])
  have e1 : x.enc = (([] : List Value) ++ (x.c.enc)) ++ ([(.int .i64 x.replica)] ++ ([(.map x.m)] ++ (([] : List Value)))) := by simp only [GRevealReveal.enc, List.nil_append, List.append_assoc, List.append_nil]
  have e2 : ({ x with replica := v } : GRevealReveal).enc = (([] : List Value) ++ (x.c.enc)) ++ ([(.int .i64 v)] ++ ([(.map x.m)] ++ (([] : List Value)))) := by simp only [GRevealReveal.enc, List.nil_append, List.append_assoc, List.append_nil]
  rw [e1, e2]; exact h
theorem fs130_2 (x : GRevealReveal) (v : Option Nat) (rest : List (Nat × Value)) : Instr.fill (fun i => ([(0, 2), (2, 1), (3, 1)] : List (Nat × Nat))[i]?) x.enc.toArray ((2, (.map v)) :: rest) = Instr.fill (fun i => ([(0, 2), (2, 1), (3, 1)] : List (Nat × Nat))[i]?) ({ x with m := v } : GRevealReveal).enc.toArray rest := by
  have h := fill_seg [(0, 2), (2, 1), (3, 1)] 2 3 1 rfl (([] : List Value) ++ (x.c.enc ++ ([(.int .i64 x.replica)]))) ([(.map x.m)]) (([] : List Value)) ([(.map v)]) (.map v) rest (rfl) (by simp [GConf.enc_len]) (by simp [GConf.enc_len]) (by simp [GConf.enc_len])
  have e1 : x.enc = (([] : List Value) ++ (x.c.enc ++ ([(.int .i64 x.replica)]))) ++ ([(.map x.m)] ++ (([] : List Value))) := by simp only [GRevealReveal.enc, List.nil_append, List.append_assoc, List.append_nil]
  have e2 : ({ x with m := v } : GRevealReveal).enc = (([] : List Value) ++ (x.c.enc ++ ([(.int .i64 x.replica)]))) ++ ([(.map v)] ++ (([] : List Value))) := by simp only [GRevealReveal.enc, List.nil_append, List.append_assoc, List.append_nil]
  rw [e1, e2]; exact h
@[go_sem ↓ high] theorem xd_GRevealReveal (ρ : Operand → Value) (dst : Option Tmp) (ps : Array (Nat × Operand)) (ty : TypeId) (pos : String) (after : Array Edge) (guard : Option (Nat × Bool)) : execOp ρ { dst, op := .build 130 ps, type := ty, pos, after, guard } = (do pure (.value (← gBuild 130 (ps.map fun (i, x) => (i, ρ x))))) := ex_build ..
@[go_sem ↓ high] theorem bd130_0 (w : World) (v0 : GConf) (v1 : Int) (v2 : Option Nat) : (gBuild 130 #[(0, (v0.val)), (1, (.int .i64 v1)), (2, (.map v2))]).run Tryz.prog w = .ok (GRevealReveal.val ⟨v0, v1, v2⟩) w := by
  rw [GRevealReveal.val_eq]
  refine run_gBuild_of uu130 zr130 pl130 ?_ w
  show Instr.fill _ (GRevealReveal.enc default).toArray [(0, (v0.val)), (1, (.int .i64 v1)), (2, (.map v2))] = _
  rw [fs130_0, fs130_1, fs130_2]; rfl

/-! ### gavel/reveal.place -/
structure GRevealPlace where
  e : GEntry
  since : Int
  opening : GOpening
  acked : Bool
  denied : Bool
  denies : Option Nat
deriving DecidableEq
instance : Inhabited GRevealPlace := ⟨⟨default, 0, default, false, false, none⟩⟩
def GRevealPlace.enc (x : GRevealPlace) : List Value := x.e.enc ++ ([(.int .u64 x.since)] ++ (x.opening.enc ++ ([(.bool x.acked)] ++ ([(.bool x.denied)] ++ ([(.map x.denies)])))))
theorem GRevealPlace.enc_len (x : GRevealPlace) : x.enc.length = 73 := by simp [GRevealPlace.enc, GEntry.enc_len, GOpening.enc_len]
theorem GRevealPlace.enc_one (x : GRevealPlace) : ∀ u ∈ x.enc, u.oneCell' = true := by
  intro u hu
  simp only [GRevealPlace.enc, List.mem_append, List.mem_singleton] at hu
  rcases hu with hu | hu | hu | hu | hu | hu
  · exact Enc.one (α := GEntry) _ _ hu
  · subst hu; rfl
  · exact Enc.one (α := GOpening) _ _ hu
  · subst hu; rfl
  · subst hu; rfl
  · subst hu; rfl
theorem GRevealPlace.enc_inj (x y : GRevealPlace) (h : x.enc = y.enc) : x = y := by
  obtain ⟨a0, a1, a2, a3, a4, a5⟩ := x
  obtain ⟨b0, b1, b2, b3, b4, b5⟩ := y
  simp only [GRevealPlace.enc] at h
  obtain ⟨p0, q0⟩ := List.append_inj h (by simp [GEntry.enc_len])
  have e0 := Enc.inj (α := GEntry) _ _ p0
  obtain ⟨p1, q1⟩ := List.append_inj q0 (rfl)
  have e1 : a1 = b1 := by have := List.head_eq_of_cons_eq p1; injection this
  obtain ⟨p2, q2⟩ := List.append_inj q1 (by simp [GOpening.enc_len])
  have e2 := Enc.inj (α := GOpening) _ _ p2
  obtain ⟨p3, q3⟩ := List.append_inj q2 (rfl)
  have e3 : a3 = b3 := by have := List.head_eq_of_cons_eq p3; injection this
  obtain ⟨p4, q4⟩ := List.append_inj q3 (rfl)
  have e4 : a4 = b4 := by have := List.head_eq_of_cons_eq p4; injection this
  have e5 : a5 = b5 := by have := List.head_eq_of_cons_eq q4; injection this
  rw [e0, e1, e2, e3, e4, e5]
instance : Enc GRevealPlace where
  n := 73
  enc := GRevealPlace.enc
  pos := by omega
  len := GRevealPlace.enc_len
  one := GRevealPlace.enc_one
  inj := GRevealPlace.enc_inj
@[go_sem] theorem GRevealPlace.n_eq : Enc.n GRevealPlace = 73 := rfl
@[irreducible] def GRevealPlace.val (x : GRevealPlace) : Value := .agg x.enc.toArray
theorem GRevealPlace.val_eq (x : GRevealPlace) : GRevealPlace.val x = .agg (Enc.enc x).toArray := by unfold GRevealPlace.val; rfl
theorem GRevealPlace.ext_all (x y : GRevealPlace) : x = y ↔ x.e = y.e ∧ x.since = y.since ∧ x.opening = y.opening ∧ x.acked = y.acked ∧ x.denied = y.denied ∧ x.denies = y.denies := by
  constructor
  · intro h; cases h; simp
  · intro h; cases x; cases y; simp_all
theorem uu185 : Tryz.prog.underlying 185 = some (.struct (Tryz.prog.fieldsOf 185)) := by kernel_rfl
theorem st185 : Tryz.prog.stoodInHeld 185 = false := by kernel_rfl
theorem fl185 : fieldTO Tryz.prog 185 = [(63, 0), (42, 35), (66, 36), (4, 70), (4, 71), (183, 72)] := by kernel_rfl
theorem nb185 : noBlank Tryz.prog 185 = true := by kernel_rfl
@[go_sem ↓ high] theorem xl_GRevealPlace (ρ : Operand → Value) (dst : Option Tmp) (x : Operand) (ty : TypeId) (pos : String) (after : Array Edge) (guard : Option (Nat × Bool)) : execOp ρ { dst, op := .load 185 x, type := ty, pos, after, guard } = (do pure (.value (← gLoad 185 (ρ x)))) := ex_load ..
@[go_sem ↓ high] theorem xs_GRevealPlace (ρ : Operand → Value) (dst : Option Tmp) (x y : Operand) (ty : TypeId) (pos : String) (after : Array Edge) (guard : Option (Nat × Bool)) : execOp ρ { dst, op := .store 185 x y, type := ty, pos, after, guard } = (do gStore 185 (ρ x) (ρ y); pure .skip) := ex_store ..
@[go_sem ↓ high] theorem xb_GRevealPlace (ρ : Operand → Value) (dst : Option Tmp) (x : Operand) (ty : TypeId) (pos : String) (after : Array Edge) (guard : Option (Nat × Bool)) : execOp ρ { dst, op := .box 185 x, type := ty, pos, after, guard } = (do pure (.value (← gBox 185 (ρ x)))) := ex_box ..
@[go_sem ↓ high] theorem xa_GRevealPlace (ρ : Operand → Value) (dst : Option Tmp) (ty : TypeId) (pos : String) (after : Array Edge) (guard : Option (Nat × Bool)) : execOp ρ { dst, op := .alloc 185, type := ty, pos, after, guard } = (do pure (.value (← gAlloc 185))) := ex_alloc ..
theorem ag185 : aggT Tryz.prog 185 = true := by kernel_rfl
theorem sz185 : sizeT Tryz.prog 185 = 73 := by kernel_rfl
section
variable (w : World)
@[go_sem ↓ high] theorem ld_GRevealPlace (a : Addr) : (gLoad 185 (.pointer (some a))).run Tryz.prog w = ofOpt ((get? GRevealPlace w a).map GRevealPlace.val) w (noLoad Tryz.prog 185 a w) := by
  unfold gLoad; exact run_loadAt_opt ag185 sz185 GRevealPlace.val GRevealPlace.val_eq
@[go_sem ↓ high] theorem st_GRevealPlace (a : Addr) (x : GRevealPlace) : (gStore 185 (.pointer (some a)) (GRevealPlace.val x)).run Tryz.prog w = okU' ((get? GRevealPlace w a).isSome && blkFree w a.block) (World.putCells w a (GRevealPlace.enc x)) (noStore Tryz.prog 185 (.pointer (some a)) (GRevealPlace.val x) w) := run_gStore_any sz185 GRevealPlace.val GRevealPlace.val_eq w a x
@[go_sem ↓ high] theorem bx_GRevealPlace (x : GRevealPlace) : (gBox 185 (GRevealPlace.val x)).run Tryz.prog w = .ok (.pointer (some ⟨w.heap.size, 0, none⟩)) (w.alloc (.cells (GRevealPlace.enc x).toArray 185)) := by
  rw [GRevealPlace.val_eq]; exact run_gBox _ w
end
theorem ds185_0 (x : GRevealPlace) : (x.enc.drop 0).take 35 = x.e.enc := by
  unfold GRevealPlace.enc
  simp only [List.drop_zero] <;> (rw [List.take_append_of_le_length (by simp [GEntry.enc_len])]; exact List.take_of_length_le (by simp [GEntry.enc_len]))
theorem pt185_0 (w : World) (x : GRevealPlace) : (part 63 x.enc.toArray 0).run Tryz.prog w = .ok (x.e.val) w := by
  have h := run_part_agg (P := Tryz.prog) (w := w) (cs := x.enc) (ds := x.e.enc) (off := 0) ag63 (by rw [GEntry.enc_len]; exact sz63) (by simp [GEntry.enc_len]) (by rw [GEntry.enc_len]; exact ds185_0 x)
  rw [h, GEntry.val_eq]; rfl
@[go_sem ↓ high] theorem fd185_0 (w : World) (x : GRevealPlace) : (gField 185 (GRevealPlace.val x) 0).run Tryz.prog w = .ok (x.e.val) w := by
  rw [GRevealPlace.val_eq]
  exact run_gField w uu185 (by rw [fl185]; rfl) (pt185_0 w x)
theorem lk185_1 (x : GRevealPlace) : x.enc[35]? = some (.int .u64 x.since) := by
  simp [GRevealPlace.enc, List.getElem?_append, GEntry.enc_len]
theorem pt185_1 (w : World) (x : GRevealPlace) : (part 42 x.enc.toArray 35).run Tryz.prog w = .ok (.int .u64 x.since) w := run_part_one na42 us42 (lk185_1 x)
@[go_sem ↓ high] theorem fd185_1 (w : World) (x : GRevealPlace) : (gField 185 (GRevealPlace.val x) 1).run Tryz.prog w = .ok (.int .u64 x.since) w := by
  rw [GRevealPlace.val_eq]
  exact run_gField w uu185 (by rw [fl185]; rfl) (pt185_1 w x)
theorem ds185_2 (x : GRevealPlace) : (x.enc.drop 36).take 34 = x.opening.enc := by
  unfold GRevealPlace.enc
  simp [List.drop_append, List.drop_eq_nil_of_le, GEntry.enc_len] <;> (rw [List.take_append_of_le_length (by simp [GOpening.enc_len])]; exact List.take_of_length_le (by simp [GOpening.enc_len]))
theorem pt185_2 (w : World) (x : GRevealPlace) : (part 66 x.enc.toArray 36).run Tryz.prog w = .ok (x.opening.val) w := by
  have h := run_part_agg (P := Tryz.prog) (w := w) (cs := x.enc) (ds := x.opening.enc) (off := 36) ag66 (by rw [GOpening.enc_len]; exact sz66) (by simp [GOpening.enc_len]) (by rw [GOpening.enc_len]; exact ds185_2 x)
  rw [h, GOpening.val_eq]; rfl
@[go_sem ↓ high] theorem fd185_2 (w : World) (x : GRevealPlace) : (gField 185 (GRevealPlace.val x) 2).run Tryz.prog w = .ok (x.opening.val) w := by
  rw [GRevealPlace.val_eq]
  exact run_gField w uu185 (by rw [fl185]; rfl) (pt185_2 w x)
theorem lk185_3 (x : GRevealPlace) : x.enc[70]? = some (.bool x.acked) := by
  simp [GRevealPlace.enc, List.getElem?_append, GEntry.enc_len, GOpening.enc_len]
theorem pt185_3 (w : World) (x : GRevealPlace) : (part 4 x.enc.toArray 70).run Tryz.prog w = .ok (.bool x.acked) w := run_part_one na4 us4 (lk185_3 x)
@[go_sem ↓ high] theorem fd185_3 (w : World) (x : GRevealPlace) : (gField 185 (GRevealPlace.val x) 3).run Tryz.prog w = .ok (.bool x.acked) w := by
  rw [GRevealPlace.val_eq]
  exact run_gField w uu185 (by rw [fl185]; rfl) (pt185_3 w x)
theorem lk185_4 (x : GRevealPlace) : x.enc[71]? = some (.bool x.denied) := by
  simp [GRevealPlace.enc, List.getElem?_append, GEntry.enc_len, GOpening.enc_len]
theorem pt185_4 (w : World) (x : GRevealPlace) : (part 4 x.enc.toArray 71).run Tryz.prog w = .ok (.bool x.denied) w := run_part_one na4 us4 (lk185_4 x)
@[go_sem ↓ high] theorem fd185_4 (w : World) (x : GRevealPlace) : (gField 185 (GRevealPlace.val x) 4).run Tryz.prog w = .ok (.bool x.denied) w := by
  rw [GRevealPlace.val_eq]
  exact run_gField w uu185 (by rw [fl185]; rfl) (pt185_4 w x)
theorem lk185_5 (x : GRevealPlace) : x.enc[72]? = some (.map x.denies) := by
  simp [GRevealPlace.enc, List.getElem?_append, GEntry.enc_len, GOpening.enc_len]
theorem pt185_5 (w : World) (x : GRevealPlace) : (part 183 x.enc.toArray 72).run Tryz.prog w = .ok (.map x.denies) w := run_part_one na183 us183 (lk185_5 x)
@[go_sem ↓ high] theorem fd185_5 (w : World) (x : GRevealPlace) : (gField 185 (GRevealPlace.val x) 5).run Tryz.prog w = .ok (.map x.denies) w := by
  rw [GRevealPlace.val_eq]
  exact run_gField w uu185 (by rw [fl185]; rfl) (pt185_5 w x)
@[go_sem ↓ high] theorem xf_GRevealPlace (ρ : Operand → Value) (dst : Option Tmp) (x : Operand) (i : Nat) (ty : TypeId) (pos : String) (after : Array Edge) (guard : Option (Nat × Bool)) : execOp ρ { dst, op := .field 185 x i, type := ty, pos, after, guard } = (do pure (.value (← gField 185 (ρ x) i))) := ex_field ..
theorem zr185 : zeroT Tryz.prog 185 = some (.agg (GRevealPlace.enc default).toArray) := by kernel_rfl
@[go_sem ↓ high] theorem al_GRevealPlace (w : World) : (gAlloc 185).run Tryz.prog w = .ok (.pointer (some ⟨w.heap.size, 0, none⟩)) (w.alloc (.cells (GRevealPlace.enc default).toArray 185)) := run_zero_alloc zr185 w
@[go_sem] theorem pc_GRevealPlace (w : World) (n : Nat) (x z : GRevealPlace) (hn : n = w.heap.size) : World.putCells (w.alloc (.cells (GRevealPlace.enc z).toArray 185)) ⟨n, 0, none⟩ (GRevealPlace.enc x) = w.alloc (.cells (GRevealPlace.enc x).toArray 185) := putCells_top x z hn
theorem GRevealPlace.at_e {w : World} {a : Addr} {x : GRevealPlace} (h : get? GRevealPlace w a = some x) : get? GEntry w (a.add 0) = some x.e := by
  rw [get?_iff] at h ⊢
  refine h.sub 0 fun j v hv => ?_
  have hd := ds185_0 x
  have hj : j < 35 := by have := (List.getElem?_eq_some_iff.1 hv).1; rwa [Enc.len] at this
  show x.enc[0 + j]? = some v
  rw [← List.getElem?_drop, ← List.getElem?_take_of_lt hj, hd]; exact hv
theorem GRevealPlace.at_since {w : World} {a : Addr} {x : GRevealPlace} (h : get? GRevealPlace w a = some x) : w.cell? (a.add 35) = some (.int .u64 x.since) := (get?_iff.1 h) _ _ (lk185_1 x)
theorem GRevealPlace.at_opening {w : World} {a : Addr} {x : GRevealPlace} (h : get? GRevealPlace w a = some x) : get? GOpening w (a.add 36) = some x.opening := by
  rw [get?_iff] at h ⊢
  refine h.sub 36 fun j v hv => ?_
  have hd := ds185_2 x
  have hj : j < 34 := by have := (List.getElem?_eq_some_iff.1 hv).1; rwa [Enc.len] at this
  show x.enc[36 + j]? = some v
  rw [← List.getElem?_drop, ← List.getElem?_take_of_lt hj, hd]; exact hv
theorem GRevealPlace.at_acked {w : World} {a : Addr} {x : GRevealPlace} (h : get? GRevealPlace w a = some x) : w.cell? (a.add 70) = some (.bool x.acked) := (get?_iff.1 h) _ _ (lk185_3 x)
theorem GRevealPlace.at_denied {w : World} {a : Addr} {x : GRevealPlace} (h : get? GRevealPlace w a = some x) : w.cell? (a.add 71) = some (.bool x.denied) := (get?_iff.1 h) _ _ (lk185_4 x)
theorem GRevealPlace.at_denies {w : World} {a : Addr} {x : GRevealPlace} (h : get? GRevealPlace w a = some x) : w.cell? (a.add 72) = some (.map x.denies) := (get?_iff.1 h) _ _ (lk185_5 x)
@[go_sem] theorem nw185_0_GEntry (w : World) (n : Nat) (x : GRevealPlace) (hn : n = w.heap.size) : get? GEntry (w.alloc (.cells (GRevealPlace.enc x).toArray 185)) ⟨n, 0, none⟩ = some x.e := by
  subst hn
  have h := (GRevealPlace.at_e (get?_new (w := w) 185 x))
  simp only [Addr.add_lit, Nat.zero_add, Nat.reduceAdd] at h
  exact h
@[go_sem] theorem nw185_0_GName (w : World) (n : Nat) (x : GRevealPlace) (hn : n = w.heap.size) : get? GName (w.alloc (.cells (GRevealPlace.enc x).toArray 185)) ⟨n, 0, none⟩ = some x.e.name := by
  subst hn
  have h := (GEntry.at_name (GRevealPlace.at_e (get?_new (w := w) 185 x)))
  simp only [Addr.add_lit, Nat.zero_add, Nat.reduceAdd] at h
  exact h
@[go_sem] theorem nl185_0 (x : GRevealPlace) : x.enc[0]? = some (.int .i64 x.e.name.client) := by
  have h := (GName.at_client (GEntry.at_name (GRevealPlace.at_e (get?_new (w := (default : World)) 185 x))))
  simp only [Addr.add_lit, Nat.zero_add, Nat.reduceAdd, World.cell?_alloc_new, List.getElem?_toArray] at h
  exact h
@[go_sem] theorem nw185_2_GHash (w : World) (n : Nat) (x : GRevealPlace) (hn : n = w.heap.size) : get? GHash (w.alloc (.cells (GRevealPlace.enc x).toArray 185)) ⟨n, 2, none⟩ = some x.e.hash := by
  subst hn
  have h := (GEntry.at_hash (GRevealPlace.at_e (get?_new (w := w) 185 x)))
  simp only [Addr.add_lit, Nat.zero_add, Nat.reduceAdd] at h
  exact h
@[go_sem] theorem nl185_35 (x : GRevealPlace) : x.enc[35]? = some (.int .u64 x.since) := by
  have h := (GRevealPlace.at_since (get?_new (w := (default : World)) 185 x))
  simp only [Addr.add_lit, Nat.zero_add, Nat.reduceAdd, World.cell?_alloc_new, List.getElem?_toArray] at h
  exact h
@[go_sem] theorem nw185_36_GOpening (w : World) (n : Nat) (x : GRevealPlace) (hn : n = w.heap.size) : get? GOpening (w.alloc (.cells (GRevealPlace.enc x).toArray 185)) ⟨n, 36, none⟩ = some x.opening := by
  subst hn
  have h := (GRevealPlace.at_opening (get?_new (w := w) 185 x))
  simp only [Addr.add_lit, Nat.zero_add, Nat.reduceAdd] at h
  exact h
@[go_sem] theorem nl185_36 (x : GRevealPlace) : x.enc[36]? = some (.int .i64 x.opening.index) := by
  have h := (GOpening.at_index (GRevealPlace.at_opening (get?_new (w := (default : World)) 185 x)))
  simp only [Addr.add_lit, Nat.zero_add, Nat.reduceAdd, World.cell?_alloc_new, List.getElem?_toArray] at h
  exact h
@[go_sem] theorem nl185_70 (x : GRevealPlace) : x.enc[70]? = some (.bool x.acked) := by
  have h := (GRevealPlace.at_acked (get?_new (w := (default : World)) 185 x))
  simp only [Addr.add_lit, Nat.zero_add, Nat.reduceAdd, World.cell?_alloc_new, List.getElem?_toArray] at h
  exact h
@[go_sem] theorem nl185_71 (x : GRevealPlace) : x.enc[71]? = some (.bool x.denied) := by
  have h := (GRevealPlace.at_denied (get?_new (w := (default : World)) 185 x))
  simp only [Addr.add_lit, Nat.zero_add, Nat.reduceAdd, World.cell?_alloc_new, List.getElem?_toArray] at h
  exact h
@[go_sem] theorem nl185_72 (x : GRevealPlace) : x.enc[72]? = some (.map x.denies) := by
  have h := (GRevealPlace.at_denies (get?_new (w := (default : World)) 185 x))
  simp only [Addr.add_lit, Nat.zero_add, Nat.reduceAdd, World.cell?_alloc_new, List.getElem?_toArray] at h
  exact h
@[go_sem] theorem nw185 (w : World) (n : Nat) (x : GRevealPlace) (hn : n = w.heap.size) : get? GRevealPlace (w.alloc (.cells (GRevealPlace.enc x).toArray 185)) ⟨n, 0, none⟩ = some x := by
  subst hn; exact get?_new 185 x
theorem pl185 : ((Tryz.prog.fieldsOf 185).toList.mapM fun f => (Tryz.prog.info? f.type).map fun i => (f.offset, i.size)) = some [(0, 35), (35, 1), (36, 34), (70, 1), (71, 1), (72, 1)] := by kernel_rfl
theorem fs185_0 (x : GRevealPlace) (v : GEntry) (rest : List (Nat × Value)) : Instr.fill (fun i => ([(0, 35), (35, 1), (36, 34), (70, 1), (71, 1), (72, 1)] : List (Nat × Nat))[i]?) x.enc.toArray ((0, (v.val)) :: rest) = Instr.fill (fun i => ([(0, 35), (35, 1), (36, 34), (70, 1), (71, 1), (72, 1)] : List (Nat × Nat))[i]?) ({ x with e := v } : GRevealPlace).enc.toArray rest := by
  have h := fill_seg [(0, 35), (35, 1), (36, 34), (70, 1), (71, 1), (72, 1)] 0 0 35 rfl (([] : List Value)) (x.e.enc) ([(.int .u64 x.since)] ++ (x.opening.enc ++ ([(.bool x.acked)] ++ ([(.bool x.denied)] ++ ([(.map x.denies)] ++ (([] : List Value))))))) (v.enc) (v.val) rest (by rw [GEntry.val_eq]; rfl) (by simp [GEntry.enc_len, GOpening.enc_len]) (by simp [GEntry.enc_len, GOpening.enc_len]) (by simp [GEntry.enc_len, GOpening.enc_len])
  have e1 : x.enc = (([] : List Value)) ++ (x.e.enc ++ ([(.int .u64 x.since)] ++ (x.opening.enc ++ ([(.bool x.acked)] ++ ([(.bool x.denied)] ++ ([(.map x.denies)] ++ (([] : List Value)))))))) := by simp only [GRevealPlace.enc, List.nil_append, List.append_assoc, List.append_nil]
  have e2 : ({ x with e := v } : GRevealPlace).enc = (([] : List Value)) ++ (v.enc ++ ([(.int .u64 x.since)] ++ (x.opening.enc ++ ([(.bool x.acked)] ++ ([(.bool x.denied)] ++ ([(.map x.denies)] ++ (([] : List Value)))))))) := by simp only [GRevealPlace.enc, List.nil_append, List.append_assoc, List.append_nil]
  rw [e1, e2]; exact h
theorem fs185_1 (x : GRevealPlace) (v : Int) (rest : List (Nat × Value)) : Instr.fill (fun i => ([(0, 35), (35, 1), (36, 34), (70, 1), (71, 1), (72, 1)] : List (Nat × Nat))[i]?) x.enc.toArray ((1, (.int .u64 v)) :: rest) = Instr.fill (fun i => ([(0, 35), (35, 1), (36, 34), (70, 1), (71, 1), (72, 1)] : List (Nat × Nat))[i]?) ({ x with since := v } : GRevealPlace).enc.toArray rest := by
  have h := fill_seg [(0, 35), (35, 1), (36, 34), (70, 1), (71, 1), (72, 1)] 1 35 1 rfl (([] : List Value) ++ (x.e.enc)) ([(.int .u64 x.since)]) (x.opening.enc ++ ([(.bool x.acked)] ++ ([(.bool x.denied)] ++ ([(.map x.denies)] ++ (([] : List Value)))))) ([(.int .u64 v)]) (.int .u64 v) rest (rfl) (by simp [GEntry.enc_len, GOpening.enc_len]) (by simp [GEntry.enc_len, GOpening.enc_len]) (by simp [GEntry.enc_len, GOpening.enc_len])
  have e1 : x.enc = (([] : List Value) ++ (x.e.enc)) ++ ([(.int .u64 x.since)] ++ (x.opening.enc ++ ([(.bool x.acked)] ++ ([(.bool x.denied)] ++ ([(.map x.denies)] ++ (([] : List Value))))))) := by simp only [GRevealPlace.enc, List.nil_append, List.append_assoc, List.append_nil]
  have e2 : ({ x with since := v } : GRevealPlace).enc = (([] : List Value) ++ (x.e.enc)) ++ ([(.int .u64 v)] ++ (x.opening.enc ++ ([(.bool x.acked)] ++ ([(.bool x.denied)] ++ ([(.map x.denies)] ++ (([] : List Value))))))) := by simp only [GRevealPlace.enc, List.nil_append, List.append_assoc, List.append_nil]
  rw [e1, e2]; exact h
theorem fs185_5 (x : GRevealPlace) (v : Option Nat) (rest : List (Nat × Value)) : Instr.fill (fun i => ([(0, 35), (35, 1), (36, 34), (70, 1), (71, 1), (72, 1)] : List (Nat × Nat))[i]?) x.enc.toArray ((5, (.map v)) :: rest) = Instr.fill (fun i => ([(0, 35), (35, 1), (36, 34), (70, 1), (71, 1), (72, 1)] : List (Nat × Nat))[i]?) ({ x with denies := v } : GRevealPlace).enc.toArray rest := by
  have h := fill_seg [(0, 35), (35, 1), (36, 34), (70, 1), (71, 1), (72, 1)] 5 72 1 rfl (([] : List Value) ++ (x.e.enc ++ ([(.int .u64 x.since)] ++ (x.opening.enc ++ ([(.bool x.acked)] ++ ([(.bool x.denied)])))))) ([(.map x.denies)]) (([] : List Value)) ([(.map v)]) (.map v) rest (rfl) (by simp [GEntry.enc_len, GOpening.enc_len]) (by simp [GEntry.enc_len, GOpening.enc_len]) (by simp [GEntry.enc_len, GOpening.enc_len])
  have e1 : x.enc = (([] : List Value) ++ (x.e.enc ++ ([(.int .u64 x.since)] ++ (x.opening.enc ++ ([(.bool x.acked)] ++ ([(.bool x.denied)])))))) ++ ([(.map x.denies)] ++ (([] : List Value))) := by simp only [GRevealPlace.enc, List.nil_append, List.append_assoc, List.append_nil]
  have e2 : ({ x with denies := v } : GRevealPlace).enc = (([] : List Value) ++ (x.e.enc ++ ([(.int .u64 x.since)] ++ (x.opening.enc ++ ([(.bool x.acked)] ++ ([(.bool x.denied)])))))) ++ ([(.map v)] ++ (([] : List Value))) := by simp only [GRevealPlace.enc, List.nil_append, List.append_assoc, List.append_nil]
  rw [e1, e2]; exact h
@[go_sem ↓ high] theorem xd_GRevealPlace (ρ : Operand → Value) (dst : Option Tmp) (ps : Array (Nat × Operand)) (ty : TypeId) (pos : String) (after : Array Edge) (guard : Option (Nat × Bool)) : execOp ρ { dst, op := .build 185 ps, type := ty, pos, after, guard } = (do pure (.value (← gBuild 185 (ps.map fun (i, x) => (i, ρ x))))) := ex_build ..
@[go_sem ↓ high] theorem bd185_0 (w : World) (v0 : GEntry) (v1 : Int) (v5 : Option Nat) : (gBuild 185 #[(0, (v0.val)), (1, (.int .u64 v1)), (5, (.map v5))]).run Tryz.prog w = .ok (GRevealPlace.val ⟨v0, v1, default, false, false, v5⟩) w := by
  rw [GRevealPlace.val_eq]
  refine run_gBuild_of uu185 zr185 pl185 ?_ w
  show Instr.fill _ (GRevealPlace.enc default).toArray [(0, (v0.val)), (1, (.int .u64 v1)), (5, (.map v5))] = _
  rw [fs185_0, fs185_1, fs185_5]; rfl
/-! ### []api.Deny -/
theorem ei148 : ElemI Tryz.prog 148 68 GDeny 32 := ⟨by kernel_rfl, by kernel_rfl⟩
@[go_sem ↓ high] theorem xg_148 (ρ : Operand → Value) (dst : Option Tmp) (ps : Array (Nat × Operand)) (ty : TypeId) (pos : String) (after : Array Edge) (guard : Option (Nat × Bool)) : execOp ρ { dst, op := .buildSlice 148 1 ps, type := ty, pos, after, guard } = (do pure (.value (← gBuildSlice 148 1 (ps.map fun (i, x) => (i, ρ x))))) := ex_buildSlice ..
@[go_sem ↓ high] theorem bs_148 (w : World) (x : GDeny) : (gBuildSlice 148 1 #[(0, GDeny.val x)]).run Tryz.prog w = .ok (.slice (some ⟨w.heap.size, 0, none⟩) 1 1) (w.alloc (.cells (GDeny.enc x).toArray 68)) := by
  rw [GDeny.val_eq]; exact run_buildSlice_one ei148 (by decide) x w
instance : KEnc GBookSigned := ⟨GBookSigned.val, fun a b h => by rw [GBookSigned.val_eq, GBookSigned.val_eq] at h; injection h with h; exact Enc.inj _ _ (by simpa using congrArg Array.toList h)⟩
theorem kl245 : KeyLaws Tryz.prog 245 GBookSigned where
  chk := fun e k w => by
    show (Instr.checkKey e 10000 245 (GBookSigned.val k)).run Tryz.prog w = _
    rw [GBookSigned.val_eq]
    rw [run_checkKey_struct e 9999 _ w uu245 nb245, fl245]
    show (chkFs e 9999 k.enc.toArray _).run Tryz.prog w = _
    simp only [chkFs, Sem.run_bind, pt245_0, pt245_1, Result.andThen_ok, run_checkKey_one e 9998 uk3, run_checkKey_str e 9998 uk9, Sem.run_pure]
  fnd := fnd_struct (fun k k' w => eq_GBookSigned w 9998 k k') uu245 (fun k k' => by show Instr.sameNow _ (GBookSigned.val k) (GBookSigned.val k') = none; rw [GBookSigned.val_eq, GBookSigned.val_eq]; rfl)
  same := fun k => by
    show Instr.sameBits 10000 (GBookSigned.val k) (GBookSigned.val k) = true
    rw [GBookSigned.val_eq]
    exact sameBits_cells 9999 _ (Enc.one k) (fun u hu => by
      have hu' : u ∈ k.enc := hu
      unfold GBookSigned.enc at hu'
      simp only [List.mem_append, List.mem_singleton] at hu'
      rcases hu' with hu' | hu'
      · subst hu'; exact sameBits_int _ _ _
      · subst hu'; exact sameBits_str _ _)

/-! ### map[book.signed]int -/
theorem um85 : Tryz.prog.underlying 85 = some (.map 245 3) := by kernel_rfl
theorem zv85_3 : zeroT Tryz.prog 3 = some (VEnc.vv (0 : Int)) := by kernel_rfl
@[go_sem ↓ high] theorem xk_85 (ρ : Operand → Value) (dst : Option Tmp) (x y : Operand) (ok : Bool) (ty : TypeId) (pos : String) (after : Array Edge) (guard : Option (Nat × Bool)) : execOp ρ { dst, op := .lookup 85 x y ok, type := ty, pos, after, guard } = (do pure (.value (← gLookup 85 (ρ x) (ρ y) ok))) := ex_lookup ..
@[go_sem ↓ high] theorem xu_85 (ρ : Operand → Value) (dst : Option Tmp) (x y z : Operand) (ty : TypeId) (pos : String) (after : Array Edge) (guard : Option (Nat × Bool)) : execOp ρ { dst, op := .mapUpdate 85 x y z, type := ty, pos, after, guard } = (do gMapUpdate 85 (ρ x) (ρ y) (ρ z); pure .skip) := ex_mapUpdate ..
@[go_sem ↓ high] theorem lk_85 (w : World) (r : Nat) (k : GBookSigned) : (gLookup 85 (.map (some r)) (GBookSigned.val k) false).run Tryz.prog w = ofOpt ((mapAt GBookSigned Int w r).map fun m => (.int .i64 ((mget m k).getD 0))) w (noLookup Tryz.prog 85 (.map (some r)) (GBookSigned.val k) false w) :=
  run_gLookup kl245 um85 zv85_3 w r k
@[go_sem ↓ high] theorem lo_85 (w : World) (r : Nat) (k : GBookSigned) : (gLookup 85 (.map (some r)) (GBookSigned.val k) true).run Tryz.prog w = ofOpt ((mapAt GBookSigned Int w r).map fun m => .tuple #[(.int .i64 ((mget m k).getD 0)), .bool (mget m k).isSome]) w (noLookup Tryz.prog 85 (.map (some r)) (GBookSigned.val k) true w) :=
  run_gLookup_ok kl245 um85 zv85_3 w r k
@[go_sem ↓ high] theorem ln_85 (w : World) (k : GBookSigned) : (gLookup 85 (.map none) (GBookSigned.val k) false).run Tryz.prog w = .ok (.int .i64 (0 : Int)) w :=
  run_gLookup_nil kl245 um85 zv85_3 w k
@[go_sem ↓ high] theorem mu_85 (w : World) (r : Nat) (k : GBookSigned) (v : Int) : (gMapUpdate 85 (.map (some r)) (GBookSigned.val k) (.int .i64 v)).run Tryz.prog w = okU ((mapAt GBookSigned Int w r).isSome) (mput Tryz.prog 85 w r k v) (noUpdate Tryz.prog 85 (.map (some r)) (GBookSigned.val k) (.int .i64 v) w) :=
  run_gMapUpdate kl245 um85 w r k v
@[go_sem] theorem sz_mput_85 (w : World) (r : Nat) (k : GBookSigned) (v : Int) (h : (mapAt GBookSigned Int w r).isSome = true) : (mput Tryz.prog 85 w r k v).heap.size = w.heap.size := by
  obtain ⟨m, hm⟩ := Option.isSome_iff_exists.1 h; exact mput_size kl245 um85 hm k v
instance : VEnc GStamp := ⟨GStamp.val, fun a b h => by rw [GStamp.val_eq, GStamp.val_eq] at h; injection h with h; exact Enc.inj _ _ (by simpa using congrArg Array.toList h)⟩

/-! ### map[api.Name]api.Stamp -/
theorem um122 : Tryz.prog.underlying 122 = some (.map 35 44) := by kernel_rfl
theorem zv122_44 : zeroT Tryz.prog 44 = some (VEnc.vv (default : GStamp)) := by kernel_rfl
@[go_sem ↓ high] theorem xk_122 (ρ : Operand → Value) (dst : Option Tmp) (x y : Operand) (ok : Bool) (ty : TypeId) (pos : String) (after : Array Edge) (guard : Option (Nat × Bool)) : execOp ρ { dst, op := .lookup 122 x y ok, type := ty, pos, after, guard } = (do pure (.value (← gLookup 122 (ρ x) (ρ y) ok))) := ex_lookup ..
@[go_sem ↓ high] theorem xu_122 (ρ : Operand → Value) (dst : Option Tmp) (x y z : Operand) (ty : TypeId) (pos : String) (after : Array Edge) (guard : Option (Nat × Bool)) : execOp ρ { dst, op := .mapUpdate 122 x y z, type := ty, pos, after, guard } = (do gMapUpdate 122 (ρ x) (ρ y) (ρ z); pure .skip) := ex_mapUpdate ..
@[go_sem ↓ high] theorem lk_122 (w : World) (r : Nat) (k : GName) : (gLookup 122 (.map (some r)) (GName.val k) false).run Tryz.prog w = ofOpt ((mapAt GName GStamp w r).map fun m => (GStamp.val ((mget m k).getD default))) w (noLookup Tryz.prog 122 (.map (some r)) (GName.val k) false w) :=
  run_gLookup kl35 um122 zv122_44 w r k
@[go_sem ↓ high] theorem lo_122 (w : World) (r : Nat) (k : GName) : (gLookup 122 (.map (some r)) (GName.val k) true).run Tryz.prog w = ofOpt ((mapAt GName GStamp w r).map fun m => .tuple #[(GStamp.val ((mget m k).getD default)), .bool (mget m k).isSome]) w (noLookup Tryz.prog 122 (.map (some r)) (GName.val k) true w) :=
  run_gLookup_ok kl35 um122 zv122_44 w r k
@[go_sem ↓ high] theorem ln_122 (w : World) (k : GName) : (gLookup 122 (.map none) (GName.val k) false).run Tryz.prog w = .ok (GStamp.val (default : GStamp)) w :=
  run_gLookup_nil kl35 um122 zv122_44 w k
@[go_sem ↓ high] theorem mu_122 (w : World) (r : Nat) (k : GName) (v : GStamp) : (gMapUpdate 122 (.map (some r)) (GName.val k) (GStamp.val v)).run Tryz.prog w = okU ((mapAt GName GStamp w r).isSome) (mput Tryz.prog 122 w r k v) (noUpdate Tryz.prog 122 (.map (some r)) (GName.val k) (GStamp.val v) w) :=
  run_gMapUpdate kl35 um122 w r k v
@[go_sem] theorem sz_mput_122 (w : World) (r : Nat) (k : GName) (v : GStamp) (h : (mapAt GName GStamp w r).isSome = true) : (mput Tryz.prog 122 w r k v).heap.size = w.heap.size := by
  obtain ⟨m, hm⟩ := Option.isSome_iff_exists.1 h; exact mput_size kl35 um122 hm k v
instance : VEnc GCert := ⟨GCert.val, fun a b h => by rw [GCert.val_eq, GCert.val_eq] at h; injection h with h; exact Enc.inj _ _ (by simpa using congrArg Array.toList h)⟩

/-! ### map[api.Name]api.Cert -/
theorem um125 : Tryz.prog.underlying 125 = some (.map 35 47) := by kernel_rfl
theorem zv125_47 : zeroT Tryz.prog 47 = some (VEnc.vv (default : GCert)) := by kernel_rfl
@[go_sem ↓ high] theorem xk_125 (ρ : Operand → Value) (dst : Option Tmp) (x y : Operand) (ok : Bool) (ty : TypeId) (pos : String) (after : Array Edge) (guard : Option (Nat × Bool)) : execOp ρ { dst, op := .lookup 125 x y ok, type := ty, pos, after, guard } = (do pure (.value (← gLookup 125 (ρ x) (ρ y) ok))) := ex_lookup ..
@[go_sem ↓ high] theorem xu_125 (ρ : Operand → Value) (dst : Option Tmp) (x y z : Operand) (ty : TypeId) (pos : String) (after : Array Edge) (guard : Option (Nat × Bool)) : execOp ρ { dst, op := .mapUpdate 125 x y z, type := ty, pos, after, guard } = (do gMapUpdate 125 (ρ x) (ρ y) (ρ z); pure .skip) := ex_mapUpdate ..
@[go_sem ↓ high] theorem lk_125 (w : World) (r : Nat) (k : GName) : (gLookup 125 (.map (some r)) (GName.val k) false).run Tryz.prog w = ofOpt ((mapAt GName GCert w r).map fun m => (GCert.val ((mget m k).getD default))) w (noLookup Tryz.prog 125 (.map (some r)) (GName.val k) false w) :=
  run_gLookup kl35 um125 zv125_47 w r k
@[go_sem ↓ high] theorem lo_125 (w : World) (r : Nat) (k : GName) : (gLookup 125 (.map (some r)) (GName.val k) true).run Tryz.prog w = ofOpt ((mapAt GName GCert w r).map fun m => .tuple #[(GCert.val ((mget m k).getD default)), .bool (mget m k).isSome]) w (noLookup Tryz.prog 125 (.map (some r)) (GName.val k) true w) :=
  run_gLookup_ok kl35 um125 zv125_47 w r k
@[go_sem ↓ high] theorem ln_125 (w : World) (k : GName) : (gLookup 125 (.map none) (GName.val k) false).run Tryz.prog w = .ok (GCert.val (default : GCert)) w :=
  run_gLookup_nil kl35 um125 zv125_47 w k
@[go_sem ↓ high] theorem mu_125 (w : World) (r : Nat) (k : GName) (v : GCert) : (gMapUpdate 125 (.map (some r)) (GName.val k) (GCert.val v)).run Tryz.prog w = okU ((mapAt GName GCert w r).isSome) (mput Tryz.prog 125 w r k v) (noUpdate Tryz.prog 125 (.map (some r)) (GName.val k) (GCert.val v) w) :=
  run_gMapUpdate kl35 um125 w r k v
@[go_sem] theorem sz_mput_125 (w : World) (r : Nat) (k : GName) (v : GCert) (h : (mapAt GName GCert w r).isSome = true) : (mput Tryz.prog 125 w r k v).heap.size = w.heap.size := by
  obtain ⟨m, hm⟩ := Option.isSome_iff_exists.1 h; exact mput_size kl35 um125 hm k v
theorem kl3 : KeyLaws Tryz.prog 3 Int := keyLaws_int uk3
instance : VEnc GRevealPlace := ⟨GRevealPlace.val, fun a b h => by rw [GRevealPlace.val_eq, GRevealPlace.val_eq] at h; injection h with h; exact Enc.inj _ _ (by simpa using congrArg Array.toList h)⟩

/-! ### map[int]reveal.place -/
theorem um128 : Tryz.prog.underlying 128 = some (.map 3 185) := by kernel_rfl
theorem zv128_185 : zeroT Tryz.prog 185 = some (VEnc.vv (default : GRevealPlace)) := by kernel_rfl
@[go_sem ↓ high] theorem xk_128 (ρ : Operand → Value) (dst : Option Tmp) (x y : Operand) (ok : Bool) (ty : TypeId) (pos : String) (after : Array Edge) (guard : Option (Nat × Bool)) : execOp ρ { dst, op := .lookup 128 x y ok, type := ty, pos, after, guard } = (do pure (.value (← gLookup 128 (ρ x) (ρ y) ok))) := ex_lookup ..
@[go_sem ↓ high] theorem xu_128 (ρ : Operand → Value) (dst : Option Tmp) (x y z : Operand) (ty : TypeId) (pos : String) (after : Array Edge) (guard : Option (Nat × Bool)) : execOp ρ { dst, op := .mapUpdate 128 x y z, type := ty, pos, after, guard } = (do gMapUpdate 128 (ρ x) (ρ y) (ρ z); pure .skip) := ex_mapUpdate ..
@[go_sem ↓ high] theorem lk_128 (w : World) (r : Nat) (k : Int) : (gLookup 128 (.map (some r)) (.int .i64 k) false).run Tryz.prog w = ofOpt ((mapAt Int GRevealPlace w r).map fun m => (GRevealPlace.val ((mget m k).getD default))) w (noLookup Tryz.prog 128 (.map (some r)) (.int .i64 k) false w) :=
  run_gLookup kl3 um128 zv128_185 w r k
@[go_sem ↓ high] theorem lo_128 (w : World) (r : Nat) (k : Int) : (gLookup 128 (.map (some r)) (.int .i64 k) true).run Tryz.prog w = ofOpt ((mapAt Int GRevealPlace w r).map fun m => .tuple #[(GRevealPlace.val ((mget m k).getD default)), .bool (mget m k).isSome]) w (noLookup Tryz.prog 128 (.map (some r)) (.int .i64 k) true w) :=
  run_gLookup_ok kl3 um128 zv128_185 w r k
@[go_sem ↓ high] theorem ln_128 (w : World) (k : Int) : (gLookup 128 (.map none) (.int .i64 k) false).run Tryz.prog w = .ok (GRevealPlace.val (default : GRevealPlace)) w :=
  run_gLookup_nil kl3 um128 zv128_185 w k
@[go_sem ↓ high] theorem mu_128 (w : World) (r : Nat) (k : Int) (v : GRevealPlace) : (gMapUpdate 128 (.map (some r)) (.int .i64 k) (GRevealPlace.val v)).run Tryz.prog w = okU ((mapAt Int GRevealPlace w r).isSome) (mput Tryz.prog 128 w r k v) (noUpdate Tryz.prog 128 (.map (some r)) (.int .i64 k) (GRevealPlace.val v) w) :=
  run_gMapUpdate kl3 um128 w r k v
@[go_sem] theorem sz_mput_128 (w : World) (r : Nat) (k : Int) (v : GRevealPlace) (h : (mapAt Int GRevealPlace w r).isSome = true) : (mput Tryz.prog 128 w r k v).heap.size = w.heap.size := by
  obtain ⟨m, hm⟩ := Option.isSome_iff_exists.1 h; exact mput_size kl3 um128 hm k v

end Go.Proofs.YthkifibmihijaaaGreatDoor
/- The struct types of this seat as Lean types, with the runs of single operations over them. Conditions: those named in each theorem. -/
namespace Go.Proofs.YthkifibmihijaaaGreatDoor
open Go Go.RowKit Go.Gv
set_option linter.unusedSimpArgs false

theorem na163 : aggT Tryz.prog 163 = false := by kernel_rfl
theorem us163 : (Tryz.prog.underlying 163).isSome = true := by kernel_rfl
theorem na164 : aggT Tryz.prog 164 = false := by kernel_rfl
theorem us164 : (Tryz.prog.underlying 164).isSome = true := by kernel_rfl
theorem na233 : aggT Tryz.prog 233 = false := by kernel_rfl
theorem us233 : (Tryz.prog.underlying 233).isSome = true := by kernel_rfl
theorem na234 : aggT Tryz.prog 234 = false := by kernel_rfl
theorem us234 : (Tryz.prog.underlying 234).isSome = true := by kernel_rfl
theorem na235 : aggT Tryz.prog 235 = false := by kernel_rfl
theorem us235 : (Tryz.prog.underlying 235).isSome = true := by kernel_rfl
theorem na236 : aggT Tryz.prog 236 = false := by kernel_rfl
theorem us236 : (Tryz.prog.underlying 236).isSome = true := by kernel_rfl

/-! ### gavel/tally.Tally -/
structure GTallyTally where
  c : GConf
  have_ : Option Nat
  count : Option Nat
  all : Option Nat
  last : Option Nat
deriving DecidableEq
instance : Inhabited GTallyTally := ⟨⟨default, none, none, none, none⟩⟩
def GTallyTally.enc (x : GTallyTally) : List Value := x.c.enc ++ ([(.map x.have_)] ++ ([(.map x.count)] ++ ([(.map x.all)] ++ ([(.map x.last)]))))
theorem GTallyTally.enc_len (x : GTallyTally) : x.enc.length = 6 := by simp [GTallyTally.enc, GConf.enc_len]
theorem GTallyTally.enc_one (x : GTallyTally) : ∀ u ∈ x.enc, u.oneCell' = true := by
  intro u hu
  simp only [GTallyTally.enc, List.mem_append, List.mem_singleton] at hu
  rcases hu with hu | hu | hu | hu | hu
  · exact Enc.one (α := GConf) _ _ hu
  · subst hu; rfl
  · subst hu; rfl
  · subst hu; rfl
  · subst hu; rfl
theorem GTallyTally.enc_inj (x y : GTallyTally) (h : x.enc = y.enc) : x = y := by
  obtain ⟨a0, a1, a2, a3, a4⟩ := x
  obtain ⟨b0, b1, b2, b3, b4⟩ := y
  simp only [GTallyTally.enc] at h
  obtain ⟨p0, q0⟩ := List.append_inj h (by simp [GConf.enc_len])
  have e0 := Enc.inj (α := GConf) _ _ p0
  obtain ⟨p1, q1⟩ := List.append_inj q0 (rfl)
  have e1 : a1 = b1 := by have := List.head_eq_of_cons_eq p1; injection this
  obtain ⟨p2, q2⟩ := List.append_inj q1 (rfl)
  have e2 : a2 = b2 := by have := List.head_eq_of_cons_eq p2; injection this
  obtain ⟨p3, q3⟩ := List.append_inj q2 (rfl)
  have e3 : a3 = b3 := by have := List.head_eq_of_cons_eq p3; injection this
  have e4 : a4 = b4 := by have := List.head_eq_of_cons_eq q3; injection this
  rw [e0, e1, e2, e3, e4]
instance : Enc GTallyTally where
  n := 6
  enc := GTallyTally.enc
  pos := by omega
  len := GTallyTally.enc_len
  one := GTallyTally.enc_one
  inj := GTallyTally.enc_inj
@[go_sem] theorem GTallyTally.n_eq : Enc.n GTallyTally = 6 := rfl
@[irreducible] def GTallyTally.val (x : GTallyTally) : Value := .agg x.enc.toArray
theorem GTallyTally.val_eq (x : GTallyTally) : GTallyTally.val x = .agg (Enc.enc x).toArray := by unfold GTallyTally.val; rfl
theorem GTallyTally.ext_all (x y : GTallyTally) : x = y ↔ x.c = y.c ∧ x.have_ = y.have_ ∧ x.count = y.count ∧ x.all = y.all ∧ x.last = y.last := by
  constructor
  · intro h; cases h; simp
  · intro h; cases x; cases y; simp_all
theorem uu238 : Tryz.prog.underlying 238 = some (.struct (Tryz.prog.fieldsOf 238)) := by kernel_rfl
theorem st238 : Tryz.prog.stoodInHeld 238 = false := by kernel_rfl
theorem fl238 : fieldTO Tryz.prog 238 = [(23, 0), (233, 2), (234, 3), (235, 4), (236, 5)] := by kernel_rfl
theorem nb238 : noBlank Tryz.prog 238 = true := by kernel_rfl
@[go_sem ↓ high] theorem xl_GTallyTally (ρ : Operand → Value) (dst : Option Tmp) (x : Operand) (ty : TypeId) (pos : String) (after : Array Edge) (guard : Option (Nat × Bool)) : execOp ρ { dst, op := .load 238 x, type := ty, pos, after, guard } = (do pure (.value (← gLoad 238 (ρ x)))) := ex_load ..
@[go_sem ↓ high] theorem xs_GTallyTally (ρ : Operand → Value) (dst : Option Tmp) (x y : Operand) (ty : TypeId) (pos : String) (after : Array Edge) (guard : Option (Nat × Bool)) : execOp ρ { dst, op := .store 238 x y, type := ty, pos, after, guard } = (do gStore 238 (ρ x) (ρ y); pure .skip) := ex_store ..
@[go_sem ↓ high] theorem xb_GTallyTally (ρ : Operand → Value) (dst : Option Tmp) (x : Operand) (ty : TypeId) (pos : String) (after : Array Edge) (guard : Option (Nat × Bool)) : execOp ρ { dst, op := .box 238 x, type := ty, pos, after, guard } = (do pure (.value (← gBox 238 (ρ x)))) := ex_box ..
@[go_sem ↓ high] theorem xa_GTallyTally (ρ : Operand → Value) (dst : Option Tmp) (ty : TypeId) (pos : String) (after : Array Edge) (guard : Option (Nat × Bool)) : execOp ρ { dst, op := .alloc 238, type := ty, pos, after, guard } = (do pure (.value (← gAlloc 238))) := ex_alloc ..
theorem ag238 : aggT Tryz.prog 238 = true := by kernel_rfl
theorem sz238 : sizeT Tryz.prog 238 = 6 := by kernel_rfl
section
variable (w : World)
@[go_sem ↓ high] theorem ld_GTallyTally (a : Addr) : (gLoad 238 (.pointer (some a))).run Tryz.prog w = ofOpt ((get? GTallyTally w a).map GTallyTally.val) w (noLoad Tryz.prog 238 a w) := by
  unfold gLoad; exact run_loadAt_opt ag238 sz238 GTallyTally.val GTallyTally.val_eq
@[go_sem ↓ high] theorem st_GTallyTally (a : Addr) (x : GTallyTally) : (gStore 238 (.pointer (some a)) (GTallyTally.val x)).run Tryz.prog w = okU' ((get? GTallyTally w a).isSome && blkFree w a.block) (World.putCells w a (GTallyTally.enc x)) (noStore Tryz.prog 238 (.pointer (some a)) (GTallyTally.val x) w) := run_gStore_any sz238 GTallyTally.val GTallyTally.val_eq w a x
@[go_sem ↓ high] theorem bx_GTallyTally (x : GTallyTally) : (gBox 238 (GTallyTally.val x)).run Tryz.prog w = .ok (.pointer (some ⟨w.heap.size, 0, none⟩)) (w.alloc (.cells (GTallyTally.enc x).toArray 238)) := by
  rw [GTallyTally.val_eq]; exact run_gBox _ w
end
theorem ds238_0 (x : GTallyTally) : (x.enc.drop 0).take 2 = x.c.enc := by
  unfold GTallyTally.enc
  simp only [List.drop_zero] <;> (rw [List.take_append_of_le_length (by simp [GConf.enc_len])]; exact List.take_of_length_le (by simp [GConf.enc_len]))
theorem pt238_0 (w : World) (x : GTallyTally) : (part 23 x.enc.toArray 0).run Tryz.prog w = .ok (x.c.val) w := by
  have h := run_part_agg (P := Tryz.prog) (w := w) (cs := x.enc) (ds := x.c.enc) (off := 0) ag23 (by rw [GConf.enc_len]; exact sz23) (by simp [GConf.enc_len]) (by rw [GConf.enc_len]; exact ds238_0 x)
  rw [h, GConf.val_eq]; rfl
@[go_sem ↓ high] theorem fd238_0 (w : World) (x : GTallyTally) : (gField 238 (GTallyTally.val x) 0).run Tryz.prog w = .ok (x.c.val) w := by
  rw [GTallyTally.val_eq]
  exact run_gField w uu238 (by rw [fl238]; rfl) (pt238_0 w x)
theorem lk238_1 (x : GTallyTally) : x.enc[2]? = some (.map x.have_) := by
  simp [GTallyTally.enc, List.getElem?_append, GConf.enc_len]
theorem pt238_1 (w : World) (x : GTallyTally) : (part 233 x.enc.toArray 2).run Tryz.prog w = .ok (.map x.have_) w := run_part_one na233 us233 (lk238_1 x)
@[go_sem ↓ high] theorem fd238_1 (w : World) (x : GTallyTally) : (gField 238 (GTallyTally.val x) 1).run Tryz.prog w = .ok (.map x.have_) w := by
  rw [GTallyTally.val_eq]
  exact run_gField w uu238 (by rw [fl238]; rfl) (pt238_1 w x)
theorem lk238_2 (x : GTallyTally) : x.enc[3]? = some (.map x.count) := by
  simp [GTallyTally.enc, List.getElem?_append, GConf.enc_len]
theorem pt238_2 (w : World) (x : GTallyTally) : (part 234 x.enc.toArray 3).run Tryz.prog w = .ok (.map x.count) w := run_part_one na234 us234 (lk238_2 x)
@[go_sem ↓ high] theorem fd238_2 (w : World) (x : GTallyTally) : (gField 238 (GTallyTally.val x) 2).run Tryz.prog w = .ok (.map x.count) w := by
  rw [GTallyTally.val_eq]
  exact run_gField w uu238 (by rw [fl238]; rfl) (pt238_2 w x)
theorem lk238_3 (x : GTallyTally) : x.enc[4]? = some (.map x.all) := by
  simp [GTallyTally.enc, List.getElem?_append, GConf.enc_len]
theorem pt238_3 (w : World) (x : GTallyTally) : (part 235 x.enc.toArray 4).run Tryz.prog w = .ok (.map x.all) w := run_part_one na235 us235 (lk238_3 x)
@[go_sem ↓ high] theorem fd238_3 (w : World) (x : GTallyTally) : (gField 238 (GTallyTally.val x) 3).run Tryz.prog w = .ok (.map x.all) w := by
  rw [GTallyTally.val_eq]
  exact run_gField w uu238 (by rw [fl238]; rfl) (pt238_3 w x)
theorem lk238_4 (x : GTallyTally) : x.enc[5]? = some (.map x.last) := by
  simp [GTallyTally.enc, List.getElem?_append, GConf.enc_len]
theorem pt238_4 (w : World) (x : GTallyTally) : (part 236 x.enc.toArray 5).run Tryz.prog w = .ok (.map x.last) w := run_part_one na236 us236 (lk238_4 x)
@[go_sem ↓ high] theorem fd238_4 (w : World) (x : GTallyTally) : (gField 238 (GTallyTally.val x) 4).run Tryz.prog w = .ok (.map x.last) w := by
  rw [GTallyTally.val_eq]
  exact run_gField w uu238 (by rw [fl238]; rfl) (pt238_4 w x)
@[go_sem ↓ high] theorem xf_GTallyTally (ρ : Operand → Value) (dst : Option Tmp) (x : Operand) (i : Nat) (ty : TypeId) (pos : String) (after : Array Edge) (guard : Option (Nat × Bool)) : execOp ρ { dst, op := .field 238 x i, type := ty, pos, after, guard } = (do pure (.value (← gField 238 (ρ x) i))) := ex_field ..
theorem zr238 : zeroT Tryz.prog 238 = some (.agg (GTallyTally.enc default).toArray) := by kernel_rfl
@[go_sem ↓ high] theorem al_GTallyTally (w : World) : (gAlloc 238).run Tryz.prog w = .ok (.pointer (some ⟨w.heap.size, 0, none⟩)) (w.alloc (.cells (GTallyTally.enc default).toArray 238)) := run_zero_alloc zr238 w
@[go_sem] theorem pc_GTallyTally (w : World) (n : Nat) (x z : GTallyTally) (hn : n = w.heap.size) : World.putCells (w.alloc (.cells (GTallyTally.enc z).toArray 238)) ⟨n, 0, none⟩ (GTallyTally.enc x) = w.alloc (.cells (GTallyTally.enc x).toArray 238) := putCells_top x z hn
theorem GTallyTally.at_c {w : World} {a : Addr} {x : GTallyTally} (h : get? GTallyTally w a = some x) : get? GConf w (a.add 0) = some x.c := by
  rw [get?_iff] at h ⊢
  refine h.sub 0 fun j v hv => ?_
  have hd := ds238_0 x
  have hj : j < 2 := by have := (List.getElem?_eq_some_iff.1 hv).1; rwa [Enc.len] at this
  show x.enc[0 + j]? = some v
  rw [← List.getElem?_drop, ← List.getElem?_take_of_lt hj, hd]; exact hv
theorem GTallyTally.at_have_ {w : World} {a : Addr} {x : GTallyTally} (h : get? GTallyTally w a = some x) : w.cell? (a.add 2) = some (.map x.have_) := (get?_iff.1 h) _ _ (lk238_1 x)
theorem GTallyTally.at_count {w : World} {a : Addr} {x : GTallyTally} (h : get? GTallyTally w a = some x) : w.cell? (a.add 3) = some (.map x.count) := (get?_iff.1 h) _ _ (lk238_2 x)
theorem GTallyTally.at_all {w : World} {a : Addr} {x : GTallyTally} (h : get? GTallyTally w a = some x) : w.cell? (a.add 4) = some (.map x.all) := (get?_iff.1 h) _ _ (lk238_3 x)
theorem GTallyTally.at_last {w : World} {a : Addr} {x : GTallyTally} (h : get? GTallyTally w a = some x) : w.cell? (a.add 5) = some (.map x.last) := (get?_iff.1 h) _ _ (lk238_4 x)
@[go_sem] theorem nw238_0_GConf (w : World) (n : Nat) (x : GTallyTally) (hn : n = w.heap.size) : get? GConf (w.alloc (.cells (GTallyTally.enc x).toArray 238)) ⟨n, 0, none⟩ = some x.c := by
  subst hn
  have h := (GTallyTally.at_c (get?_new (w := w) 238 x))
  simp only [Addr.add_lit, Nat.zero_add, Nat.reduceAdd] at h
  exact h
@[go_sem] theorem nl238_0 (x : GTallyTally) : x.enc[0]? = some (.int .i64 x.c.f) := by
  have h := (GConf.at_f (GTallyTally.at_c (get?_new (w := (default : World)) 238 x)))
  simp only [Addr.add_lit, Nat.zero_add, Nat.reduceAdd, World.cell?_alloc_new, List.getElem?_toArray] at h
  exact h
@[go_sem] theorem nl238_1 (x : GTallyTally) : x.enc[1]? = some (.int .i64 x.c.clients) := by
  have h := (GConf.at_clients (GTallyTally.at_c (get?_new (w := (default : World)) 238 x)))
  simp only [Addr.add_lit, Nat.zero_add, Nat.reduceAdd, World.cell?_alloc_new, List.getElem?_toArray] at h
  exact h
@[go_sem] theorem nl238_2 (x : GTallyTally) : x.enc[2]? = some (.map x.have_) := by
  have h := (GTallyTally.at_have_ (get?_new (w := (default : World)) 238 x))
  simp only [Addr.add_lit, Nat.zero_add, Nat.reduceAdd, World.cell?_alloc_new, List.getElem?_toArray] at h
  exact h
@[go_sem] theorem nl238_3 (x : GTallyTally) : x.enc[3]? = some (.map x.count) := by
  have h := (GTallyTally.at_count (get?_new (w := (default : World)) 238 x))
  simp only [Addr.add_lit, Nat.zero_add, Nat.reduceAdd, World.cell?_alloc_new, List.getElem?_toArray] at h
  exact h
@[go_sem] theorem nl238_4 (x : GTallyTally) : x.enc[4]? = some (.map x.all) := by
  have h := (GTallyTally.at_all (get?_new (w := (default : World)) 238 x))
  simp only [Addr.add_lit, Nat.zero_add, Nat.reduceAdd, World.cell?_alloc_new, List.getElem?_toArray] at h
  exact h
@[go_sem] theorem nl238_5 (x : GTallyTally) : x.enc[5]? = some (.map x.last) := by
  have h := (GTallyTally.at_last (get?_new (w := (default : World)) 238 x))
  simp only [Addr.add_lit, Nat.zero_add, Nat.reduceAdd, World.cell?_alloc_new, List.getElem?_toArray] at h
  exact h
@[go_sem] theorem nw238 (w : World) (n : Nat) (x : GTallyTally) (hn : n = w.heap.size) : get? GTallyTally (w.alloc (.cells (GTallyTally.enc x).toArray 238)) ⟨n, 0, none⟩ = some x := by
  subst hn; exact get?_new 238 x
theorem pl238 : ((Tryz.prog.fieldsOf 238).toList.mapM fun f => (Tryz.prog.info? f.type).map fun i => (f.offset, i.size)) = some [(0, 2), (2, 1), (3, 1), (4, 1), (5, 1)] := by kernel_rfl
theorem fs238_0 (x : GTallyTally) (v : GConf) (rest : List (Nat × Value)) : Instr.fill (fun i => ([(0, 2), (2, 1), (3, 1), (4, 1), (5, 1)] : List (Nat × Nat))[i]?) x.enc.toArray ((0, (v.val)) :: rest) = Instr.fill (fun i => ([(0, 2), (2, 1), (3, 1), (4, 1), (5, 1)] : List (Nat × Nat))[i]?) ({ x with c := v } : GTallyTally).enc.toArray rest := by
  have h := fill_seg [(0, 2), (2, 1), (3, 1), (4, 1), (5, 1)] 0 0 2 rfl (([] : List Value)) (x.c.enc) ([(.map x.have_)] ++ ([(.map x.count)] ++ ([(.map x.all)] ++ ([(.map x.last)] ++ (([] : List Value)))))) (v.enc) (v.val) rest (by rw [GConf.val_eq]; rfl) (by simp [GConf.enc_len]) (by simp [GConf.enc_len]) (by simp [GConf.enc_len])
  have e1 : x.enc = (([] : List Value)) ++ (x.c.enc ++ ([(.map x.have_)] ++ ([(.map x.count)] ++ ([(.map x.all)] ++ ([(.map x.last)] ++ (([] : List Value))))))) := by simp only [GTallyTally.enc, List.nil_append, List.append_assoc, List.append_nil]
  have e2 : ({ x with c := v } : GTallyTally).enc = (([] : List Value)) ++ (v.enc ++ ([(.map x.have_)] ++ ([(.map x.count)] ++ ([(.map x.all)] ++ ([(.map x.last)] ++ (([] : List Value))))))) := by simp only [GTallyTally.enc, List.nil_append, List.append_assoc, List.append_nil]
  rw [e1, e2]; exact h
theorem fs238_1 (x : GTallyTally) (v : Option Nat) (rest : List (Nat × Value)) : Instr.fill (fun i => ([(0, 2), (2, 1), (3, 1), (4, 1), (5, 1)] : List (Nat × Nat))[i]?) x.enc.toArray ((1, (.map v)) :: rest) = Instr.fill (fun i => ([(0, 2), (2, 1), (3, 1), (4, 1), (5, 1)] : List (Nat × Nat))[i]?) ({ x with have_ := v } : GTallyTally).enc.toArray rest := by
  have h := fill_seg [(0, 2), (2, 1), (3, 1), (4, 1), (5, 1)] 1 2 1 rfl (([] : List Value) ++ (x.c.enc)) ([(.map x.have_)]) ([(.map x.count)] ++ ([(.map x.all)] ++ ([(.map x.last)] ++ (([] : List Value))))) ([(.map v)]) (.map v) rest (rfl) (by simp [GConf.enc_len]) (by simp [GConf.enc_len]) (by simp [GConf.enc_len])
  have e1 : x.enc = (([] : List Value) ++ (x.c.enc)) ++ ([(.map x.have_)] ++ ([(.map x.count)] ++ ([(.map x.all)] ++ ([(.map x.last)] ++ (([] : List Value)))))) := by simp only [GTallyTally.enc, List.nil_append, List.append_assoc, List.append_nil]
  have e2 : ({ x with have_ := v } : GTallyTally).enc = (([] : List Value) ++ (x.c.enc)) ++ ([(.map v)] ++ ([(.map x.count)] ++ ([(.map x.all)] ++ ([(.map x.last)] ++ (([] : List Value)))))) := by simp only [GTallyTally.enc, List.nil_append, List.append_assoc, List.append_nil]
  rw [e1, e2]; exact h
theorem fs238_2 (x : GTallyTally) (v : Option Nat) (rest : List (Nat × Value)) : Instr.fill (fun i => ([(0, 2), (2, 1), (3, 1), (4, 1), (5, 1)] : List (Nat × Nat))[i]?) x.enc.toArray ((2, (.map v)) :: rest) = Instr.fill (fun i => ([(0, 2), (2, 1), (3, 1), (4, 1), (5, 1)] : List (Nat × Nat))[i]?) ({ x with count := v } : GTallyTally).enc.toArray rest := by
  have h := fill_seg [(0, 2), (2, 1), (3, 1), (4, 1), (5, 1)] 2 3 1 rfl (([] : List Value) ++ (x.c.enc ++ ([(.map x.have_)]))) ([(.map x.count)]) ([(.map x.all)] ++ ([(.map x.last)] ++ (([] : List Value)))) ([(.map v)]) (.map v) rest (rfl) (by simp [GConf.enc_len]) (by simp [GConf.enc_len]) (by simp [GConf.enc_len])
  have e1 : x.enc = (([] : List Value) ++ (x.c.enc ++ ([(.map x.have_)]))) ++ ([(.map x.count)] ++ ([(.map x.all)] ++ ([(.map x.last)] ++ (([] : List Value))))) := by simp only [GTallyTally.enc, List.nil_append, List.append_assoc, List.append_nil]
  have e2 : ({ x with count := v } : GTallyTally).enc = (([] : List Value) ++ (x.c.enc ++ ([(.map x.have_)]))) ++ ([(.map v)] ++ ([(.map x.all)] ++ ([(.map x.last)] ++ (([] : List Value))))) := by simp only [GTallyTally.enc, List.nil_append, List.append_assoc, List.append_nil]
  rw [e1, e2]; exact h
theorem fs238_3 (x : GTallyTally) (v : Option Nat) (rest : List (Nat × Value)) : Instr.fill (fun i => ([(0, 2), (2, 1), (3, 1), (4, 1), (5, 1)] : List (Nat × Nat))[i]?) x.enc.toArray ((3, (.map v)) :: rest) = Instr.fill (fun i => ([(0, 2), (2, 1), (3, 1), (4, 1), (5, 1)] : List (Nat × Nat))[i]?) ({ x with all := v } : GTallyTally).enc.toArray rest := by
  have h := fill_seg [(0, 2), (2, 1), (3, 1), (4, 1), (5, 1)] 3 4 1 rfl (([] : List Value) ++ (x.c.enc ++ ([(.map x.have_)] ++ ([(.map x.count)])))) ([(.map x.all)]) ([(.map x.last)] ++ (([] : List Value))) ([(.map v)]) (.map v) rest (rfl) (by simp [GConf.enc_len]) (by simp [GConf.enc_len]) (by simp [GConf.enc_len])
  have e1 : x.enc = (([] : List Value) ++ (x.c.enc ++ ([(.map x.have_)] ++ ([(.map x.count)])))) ++ ([(.map x.all)] ++ ([(.map x.last)] ++ (([] : List Value)))) := by simp only [GTallyTally.enc, List.nil_append, List.append_assoc, List.append_nil]
  have e2 : ({ x with all := v } : GTallyTally).enc = (([] : List Value) ++ (x.c.enc ++ ([(.map x.have_)] ++ ([(.map x.count)])))) ++ ([(.map v)] ++ ([(.map x.last)] ++ (([] : List Value)))) := by simp only [GTallyTally.enc, List.nil_append, List.append_assoc, List.append_nil]
  rw [e1, e2]; exact h
theorem fs238_4 (x : GTallyTally) (v : Option Nat) (rest : List (Nat × Value)) : Instr.fill (fun i => ([(0, 2), (2, 1), (3, 1), (4, 1), (5, 1)] : List (Nat × Nat))[i]?) x.enc.toArray ((4, (.map v)) :: rest) = Instr.fill (fun i => ([(0, 2), (2, 1), (3, 1), (4, 1), (5, 1)] : List (Nat × Nat))[i]?) ({ x with last := v } : GTallyTally).enc.toArray rest := by
  have h := fill_seg [(0, 2), (2, 1), (3, 1), (4, 1), (5, 1)] 4 5 1 rfl (([] : List Value) ++ (x.c.enc ++ ([(.map x.have_)] ++ ([(.map x.count)] ++ ([(.map x.all)]))))) ([(.map x.last)]) (([] : List Value)) ([(.map v)]) (.map v) rest (rfl) (by simp [GConf.enc_len]) (by simp [GConf.enc_len]) (by simp [GConf.enc_len])
  have e1 : x.enc = (([] : List Value) ++ (x.c.enc ++ ([(.map x.have_)] ++ ([(.map x.count)] ++ ([(.map x.all)]))))) ++ ([(.map x.last)] ++ (([] : List Value))) := by simp only [GTallyTally.enc, List.nil_append, List.append_assoc, List.append_nil]
  have e2 : ({ x with last := v } : GTallyTally).enc = (([] : List Value) ++ (x.c.enc ++ ([(.map x.have_)] ++ ([(.map x.count)] ++ ([(.map x.all)]))))) ++ ([(.map v)] ++ (([] : List Value))) := by simp only [GTallyTally.enc, List.nil_append, List.append_assoc, List.append_nil]
  rw [e1, e2]; exact h
@[go_sem ↓ high] theorem xd_GTallyTally (ρ : Operand → Value) (dst : Option Tmp) (ps : Array (Nat × Operand)) (ty : TypeId) (pos : String) (after : Array Edge) (guard : Option (Nat × Bool)) : execOp ρ { dst, op := .build 238 ps, type := ty, pos, after, guard } = (do pure (.value (← gBuild 238 (ps.map fun (i, x) => (i, ρ x))))) := ex_build ..
@[go_sem ↓ high] theorem bd238_0 (w : World) (v0 : GConf) (v1 : Option Nat) (v2 : Option Nat) (v3 : Option Nat) (v4 : Option Nat) : (gBuild 238 #[(0, (v0.val)), (1, (.map v1)), (2, (.map v2)), (3, (.map v3)), (4, (.map v4))]).run Tryz.prog w = .ok (GTallyTally.val ⟨v0, v1, v2, v3, v4⟩) w := by
  rw [GTallyTally.val_eq]
  refine run_gBuild_of uu238 zr238 pl238 ?_ w
  show Instr.fill _ (GTallyTally.enc default).toArray [(0, (v0.val)), (1, (.map v1)), (2, (.map v2)), (3, (.map v3)), (4, (.map v4))] = _
  rw [fs238_0, fs238_1, fs238_2, fs238_3, fs238_4]; rfl

/-! ### gavel/tally.voter -/
structure GTallyVoter where
  kind : Int
  round : Int
  replica : Int
deriving DecidableEq
instance : Inhabited GTallyVoter := ⟨⟨0, 0, 0⟩⟩
def GTallyVoter.enc (x : GTallyVoter) : List Value := [(.int .i64 x.kind)] ++ ([(.int .i64 x.round)] ++ ([(.int .i64 x.replica)]))
theorem GTallyVoter.enc_len (x : GTallyVoter) : x.enc.length = 3 := by simp [GTallyVoter.enc]
theorem GTallyVoter.enc_one (x : GTallyVoter) : ∀ u ∈ x.enc, u.oneCell' = true := by
  intro u hu
  simp only [GTallyVoter.enc, List.mem_append, List.mem_singleton] at hu
  rcases hu with hu | hu | hu
  · subst hu; rfl
  · subst hu; rfl
  · subst hu; rfl
theorem GTallyVoter.enc_inj (x y : GTallyVoter) (h : x.enc = y.enc) : x = y := by
  obtain ⟨a0, a1, a2⟩ := x
  obtain ⟨b0, b1, b2⟩ := y
  simp only [GTallyVoter.enc] at h
  obtain ⟨p0, q0⟩ := List.append_inj h (rfl)
  have e0 : a0 = b0 := by have := List.head_eq_of_cons_eq p0; injection this
  obtain ⟨p1, q1⟩ := List.append_inj q0 (rfl)
  have e1 : a1 = b1 := by have := List.head_eq_of_cons_eq p1; injection this
  have e2 : a2 = b2 := by have := List.head_eq_of_cons_eq q1; injection this
  rw [e0, e1, e2]
instance : Enc GTallyVoter where
  n := 3
  enc := GTallyVoter.enc
  pos := by omega
  len := GTallyVoter.enc_len
  one := GTallyVoter.enc_one
  inj := GTallyVoter.enc_inj
@[go_sem] theorem GTallyVoter.n_eq : Enc.n GTallyVoter = 3 := rfl
@[irreducible] def GTallyVoter.val (x : GTallyVoter) : Value := .agg x.enc.toArray
theorem GTallyVoter.val_eq (x : GTallyVoter) : GTallyVoter.val x = .agg (Enc.enc x).toArray := by unfold GTallyVoter.val; rfl
theorem GTallyVoter.ext_all (x y : GTallyVoter) : x = y ↔ x.kind = y.kind ∧ x.round = y.round ∧ x.replica = y.replica := by
  constructor
  · intro h; cases h; simp
  · intro h; cases x; cases y; simp_all
theorem uu303 : Tryz.prog.underlying 303 = some (.struct (Tryz.prog.fieldsOf 303)) := by kernel_rfl
theorem st303 : Tryz.prog.stoodInHeld 303 = false := by kernel_rfl
theorem fl303 : fieldTO Tryz.prog 303 = [(3, 0), (3, 1), (3, 2)] := by kernel_rfl
theorem nb303 : noBlank Tryz.prog 303 = true := by kernel_rfl
@[go_sem ↓ high] theorem xl_GTallyVoter (ρ : Operand → Value) (dst : Option Tmp) (x : Operand) (ty : TypeId) (pos : String) (after : Array Edge) (guard : Option (Nat × Bool)) : execOp ρ { dst, op := .load 303 x, type := ty, pos, after, guard } = (do pure (.value (← gLoad 303 (ρ x)))) := ex_load ..
@[go_sem ↓ high] theorem xs_GTallyVoter (ρ : Operand → Value) (dst : Option Tmp) (x y : Operand) (ty : TypeId) (pos : String) (after : Array Edge) (guard : Option (Nat × Bool)) : execOp ρ { dst, op := .store 303 x y, type := ty, pos, after, guard } = (do gStore 303 (ρ x) (ρ y); pure .skip) := ex_store ..
@[go_sem ↓ high] theorem xb_GTallyVoter (ρ : Operand → Value) (dst : Option Tmp) (x : Operand) (ty : TypeId) (pos : String) (after : Array Edge) (guard : Option (Nat × Bool)) : execOp ρ { dst, op := .box 303 x, type := ty, pos, after, guard } = (do pure (.value (← gBox 303 (ρ x)))) := ex_box ..
@[go_sem ↓ high] theorem xa_GTallyVoter (ρ : Operand → Value) (dst : Option Tmp) (ty : TypeId) (pos : String) (after : Array Edge) (guard : Option (Nat × Bool)) : execOp ρ { dst, op := .alloc 303, type := ty, pos, after, guard } = (do pure (.value (← gAlloc 303))) := ex_alloc ..
theorem ag303 : aggT Tryz.prog 303 = true := by kernel_rfl
theorem sz303 : sizeT Tryz.prog 303 = 3 := by kernel_rfl
section
variable (w : World)
@[go_sem ↓ high] theorem ld_GTallyVoter (a : Addr) : (gLoad 303 (.pointer (some a))).run Tryz.prog w = ofOpt ((get? GTallyVoter w a).map GTallyVoter.val) w (noLoad Tryz.prog 303 a w) := by
  unfold gLoad; exact run_loadAt_opt ag303 sz303 GTallyVoter.val GTallyVoter.val_eq
@[go_sem ↓ high] theorem st_GTallyVoter (a : Addr) (x : GTallyVoter) : (gStore 303 (.pointer (some a)) (GTallyVoter.val x)).run Tryz.prog w = okU' ((get? GTallyVoter w a).isSome && blkFree w a.block) (World.putCells w a (GTallyVoter.enc x)) (noStore Tryz.prog 303 (.pointer (some a)) (GTallyVoter.val x) w) := run_gStore_any sz303 GTallyVoter.val GTallyVoter.val_eq w a x
@[go_sem ↓ high] theorem bx_GTallyVoter (x : GTallyVoter) : (gBox 303 (GTallyVoter.val x)).run Tryz.prog w = .ok (.pointer (some ⟨w.heap.size, 0, none⟩)) (w.alloc (.cells (GTallyVoter.enc x).toArray 303)) := by
  rw [GTallyVoter.val_eq]; exact run_gBox _ w
end
theorem lk303_0 (x : GTallyVoter) : x.enc[0]? = some (.int .i64 x.kind) := by
  simp [GTallyVoter.enc, List.getElem?_append]
theorem pt303_0 (w : World) (x : GTallyVoter) : (part 3 x.enc.toArray 0).run Tryz.prog w = .ok (.int .i64 x.kind) w := run_part_one na3 us3 (lk303_0 x)
@[go_sem ↓ high] theorem fd303_0 (w : World) (x : GTallyVoter) : (gField 303 (GTallyVoter.val x) 0).run Tryz.prog w = .ok (.int .i64 x.kind) w := by
  rw [GTallyVoter.val_eq]
  exact run_gField w uu303 (by rw [fl303]; rfl) (pt303_0 w x)
theorem lk303_1 (x : GTallyVoter) : x.enc[1]? = some (.int .i64 x.round) := by
  simp [GTallyVoter.enc, List.getElem?_append]
theorem pt303_1 (w : World) (x : GTallyVoter) : (part 3 x.enc.toArray 1).run Tryz.prog w = .ok (.int .i64 x.round) w := run_part_one na3 us3 (lk303_1 x)
@[go_sem ↓ high] theorem fd303_1 (w : World) (x : GTallyVoter) : (gField 303 (GTallyVoter.val x) 1).run Tryz.prog w = .ok (.int .i64 x.round) w := by
  rw [GTallyVoter.val_eq]
  exact run_gField w uu303 (by rw [fl303]; rfl) (pt303_1 w x)
theorem lk303_2 (x : GTallyVoter) : x.enc[2]? = some (.int .i64 x.replica) := by
  simp [GTallyVoter.enc, List.getElem?_append]
theorem pt303_2 (w : World) (x : GTallyVoter) : (part 3 x.enc.toArray 2).run Tryz.prog w = .ok (.int .i64 x.replica) w := run_part_one na3 us3 (lk303_2 x)
@[go_sem ↓ high] theorem fd303_2 (w : World) (x : GTallyVoter) : (gField 303 (GTallyVoter.val x) 2).run Tryz.prog w = .ok (.int .i64 x.replica) w := by
  rw [GTallyVoter.val_eq]
  exact run_gField w uu303 (by rw [fl303]; rfl) (pt303_2 w x)
@[go_sem ↓ high] theorem xf_GTallyVoter (ρ : Operand → Value) (dst : Option Tmp) (x : Operand) (i : Nat) (ty : TypeId) (pos : String) (after : Array Edge) (guard : Option (Nat × Bool)) : execOp ρ { dst, op := .field 303 x i, type := ty, pos, after, guard } = (do pure (.value (← gField 303 (ρ x) i))) := ex_field ..
theorem zr303 : zeroT Tryz.prog 303 = some (.agg (GTallyVoter.enc default).toArray) := by kernel_rfl
@[go_sem ↓ high] theorem al_GTallyVoter (w : World) : (gAlloc 303).run Tryz.prog w = .ok (.pointer (some ⟨w.heap.size, 0, none⟩)) (w.alloc (.cells (GTallyVoter.enc default).toArray 303)) := run_zero_alloc zr303 w
@[go_sem] theorem pc_GTallyVoter (w : World) (n : Nat) (x z : GTallyVoter) (hn : n = w.heap.size) : World.putCells (w.alloc (.cells (GTallyVoter.enc z).toArray 303)) ⟨n, 0, none⟩ (GTallyVoter.enc x) = w.alloc (.cells (GTallyVoter.enc x).toArray 303) := putCells_top x z hn
theorem GTallyVoter.at_kind {w : World} {a : Addr} {x : GTallyVoter} (h : get? GTallyVoter w a = some x) : w.cell? (a.add 0) = some (.int .i64 x.kind) := (get?_iff.1 h) _ _ (lk303_0 x)
theorem GTallyVoter.at_round {w : World} {a : Addr} {x : GTallyVoter} (h : get? GTallyVoter w a = some x) : w.cell? (a.add 1) = some (.int .i64 x.round) := (get?_iff.1 h) _ _ (lk303_1 x)
theorem GTallyVoter.at_replica {w : World} {a : Addr} {x : GTallyVoter} (h : get? GTallyVoter w a = some x) : w.cell? (a.add 2) = some (.int .i64 x.replica) := (get?_iff.1 h) _ _ (lk303_2 x)
@[go_sem] theorem nl303_0 (x : GTallyVoter) : x.enc[0]? = some (.int .i64 x.kind) := by
  have h := (GTallyVoter.at_kind (get?_new (w := (default : World)) 303 x))
  simp only [Addr.add_lit, Nat.zero_add, Nat.reduceAdd, World.cell?_alloc_new, List.getElem?_toArray] at h
  exact h
@[go_sem] theorem nl303_1 (x : GTallyVoter) : x.enc[1]? = some (.int .i64 x.round) := by
  have h := (GTallyVoter.at_round (get?_new (w := (default : World)) 303 x))
  simp only [Addr.add_lit, Nat.zero_add, Nat.reduceAdd, World.cell?_alloc_new, List.getElem?_toArray] at h
  exact h
@[go_sem] theorem nl303_2 (x : GTallyVoter) : x.enc[2]? = some (.int .i64 x.replica) := by
  have h := (GTallyVoter.at_replica (get?_new (w := (default : World)) 303 x))
  simp only [Addr.add_lit, Nat.zero_add, Nat.reduceAdd, World.cell?_alloc_new, List.getElem?_toArray] at h
  exact h
@[go_sem] theorem nw303 (w : World) (n : Nat) (x : GTallyVoter) (hn : n = w.heap.size) : get? GTallyVoter (w.alloc (.cells (GTallyVoter.enc x).toArray 303)) ⟨n, 0, none⟩ = some x := by
  subst hn; exact get?_new 303 x
theorem pl303 : ((Tryz.prog.fieldsOf 303).toList.mapM fun f => (Tryz.prog.info? f.type).map fun i => (f.offset, i.size)) = some [(0, 1), (1, 1), (2, 1)] := by kernel_rfl
theorem fs303_0 (x : GTallyVoter) (v : Int) (rest : List (Nat × Value)) : Instr.fill (fun i => ([(0, 1), (1, 1), (2, 1)] : List (Nat × Nat))[i]?) x.enc.toArray ((0, (.int .i64 v)) :: rest) = Instr.fill (fun i => ([(0, 1), (1, 1), (2, 1)] : List (Nat × Nat))[i]?) ({ x with kind := v } : GTallyVoter).enc.toArray rest := by
  have h := fill_seg [(0, 1), (1, 1), (2, 1)] 0 0 1 rfl (([] : List Value)) ([(.int .i64 x.kind)]) ([(.int .i64 x.round)] ++ ([(.int .i64 x.replica)] ++ (([] : List Value)))) ([(.int .i64 v)]) (.int .i64 v) rest (rfl) (by simp) (by simp) (by simp)
  have e1 : x.enc = (([] : List Value)) ++ ([(.int .i64 x.kind)] ++ ([(.int .i64 x.round)] ++ ([(.int .i64 x.replica)] ++ (([] : List Value))))) := by simp only [GTallyVoter.enc, List.nil_append, List.append_assoc, List.append_nil]
  have e2 : ({ x with kind := v } : GTallyVoter).enc = (([] : List Value)) ++ ([(.int .i64 v)] ++ ([(.int .i64 x.round)] ++ ([(.int .i64 x.replica)] ++ (([] : List Value))))) := by simp only [GTallyVoter.enc, List.nil_append, List.append_assoc, List.append_nil]
  rw [e1, e2]; exact h
theorem fs303_1 (x : GTallyVoter) (v : Int) (rest : List (Nat × Value)) : Instr.fill (fun i => ([(0, 1), (1, 1), (2, 1)] : List (Nat × Nat))[i]?) x.enc.toArray ((1, (.int .i64 v)) :: rest) = Instr.fill (fun i => ([(0, 1), (1, 1), (2, 1)] : List (Nat × Nat))[i]?) ({ x with round := v } : GTallyVoter).enc.toArray rest := by
  have h := fill_seg [(0, 1), (1, 1), (2, 1)] 1 1 1 rfl (([] : List Value) ++ ([(.int .i64 x.kind)])) ([(.int .i64 x.round)]) ([(.int .i64 x.replica)] ++ (([] : List Value))) ([(.int .i64 v)]) (.int .i64 v) rest (rfl) (by simp) (by simp) (by simp)
  have e1 : x.enc = (([] : List Value) ++ ([(.int .i64 x.kind)])) ++ ([(.int .i64 x.round)] ++ ([(.int .i64 x.replica)] ++ (([] : List Value)))) := by simp only [GTallyVoter.enc, List.nil_append, List.append_assoc, List.append_nil]
  have e2 : ({ x with round := v } : GTallyVoter).enc = (([] : List Value) ++ ([(.int .i64 x.kind)])) ++ ([(.int .i64 v)] ++ ([(.int .i64 x.replica)] ++ (([] : List Value)))) := by simp only [GTallyVoter.enc, List.nil_append, List.append_assoc, List.append_nil]
  rw [e1, e2]; exact h
theorem fs303_2 (x : GTallyVoter) (v : Int) (rest : List (Nat × Value)) : Instr.fill (fun i => ([(0, 1), (1, 1), (2, 1)] : List (Nat × Nat))[i]?) x.enc.toArray ((2, (.int .i64 v)) :: rest) = Instr.fill (fun i => ([(0, 1), (1, 1), (2, 1)] : List (Nat × Nat))[i]?) ({ x with replica := v } : GTallyVoter).enc.toArray rest := by
  have h := fill_seg [(0, 1), (1, 1), (2, 1)] 2 2 1 rfl (([] : List Value) ++ ([(.int .i64 x.kind)] ++ ([(.int .i64 x.round)]))) ([(.int .i64 x.replica)]) (([] : List Value)) ([(.int .i64 v)]) (.int .i64 v) rest (rfl) (by simp) (by simp) (by simp)
  have e1 : x.enc = (([] : List Value) ++ ([(.int .i64 x.kind)] ++ ([(.int .i64 x.round)]))) ++ ([(.int .i64 x.replica)] ++ (([] : List Value))) := by simp only [GTallyVoter.enc, List.nil_append, List.append_assoc, List.append_nil]
  have e2 : ({ x with replica := v } : GTallyVoter).enc = (([] : List Value) ++ ([(.int .i64 x.kind)] ++ ([(.int .i64 x.round)]))) ++ ([(.int .i64 v)] ++ (([] : List Value))) := by simp only [GTallyVoter.enc, List.nil_append, List.append_assoc, List.append_nil]
  rw [e1, e2]; exact h
@[go_sem ↓ high] theorem xd_GTallyVoter (ρ : Operand → Value) (dst : Option Tmp) (ps : Array (Nat × Operand)) (ty : TypeId) (pos : String) (after : Array Edge) (guard : Option (Nat × Bool)) : execOp ρ { dst, op := .build 303 ps, type := ty, pos, after, guard } = (do pure (.value (← gBuild 303 (ps.map fun (i, x) => (i, ρ x))))) := ex_build ..
@[go_sem ↓ high] theorem bd303_0 (w : World) (v0 : Int) (v1 : Int) (v2 : Int) : (gBuild 303 #[(0, (.int .i64 v0)), (1, (.int .i64 v1)), (2, (.int .i64 v2))]).run Tryz.prog w = .ok (GTallyVoter.val ⟨v0, v1, v2⟩) w := by
  rw [GTallyVoter.val_eq]
  refine run_gBuild_of uu303 zr303 pl303 ?_ w
  show Instr.fill _ (GTallyVoter.enc default).toArray [(0, (.int .i64 v0)), (1, (.int .i64 v1)), (2, (.int .i64 v2))] = _
  rw [fs303_0, fs303_1, fs303_2]; rfl
theorem eq_GTallyVoter (w : World) (d : Nat) (x y : GTallyVoter) : (Op.equalIn (d + 2) 303 (GTallyVoter.val x) (GTallyVoter.val y)).run Tryz.prog w = .ok (decide (x = y)) w := by
  have q0 : ∀ a b, (Op.equalIn (d + 1) 3 (.int .i64 a) (.int .i64 b)).run Tryz.prog w = .ok (decide (a = b)) w := fun a b => by rw [run_equalIn_int w (d + 0) 3 .i64 .i64 a b uk3]; congr 1
  have q1 : ∀ a b, (Op.equalIn (d + 1) 3 (.int .i64 a) (.int .i64 b)).run Tryz.prog w = .ok (decide (a = b)) w := fun a b => by rw [run_equalIn_int w (d + 0) 3 .i64 .i64 a b uk3]; congr 1
  have q2 : ∀ a b, (Op.equalIn (d + 1) 3 (.int .i64 a) (.int .i64 b)).run Tryz.prog w = .ok (decide (a = b)) w := fun a b => by rw [run_equalIn_int w (d + 0) 3 .i64 .i64 a b uk3]; congr 1
  have h := run_equalIn_fields (d + 1) x.enc.toArray y.enc.toArray w uu303 st303 nb303
  rw [fl303] at h
  unfold GTallyVoter.val
  refine h.trans ?_
  clear h
  simp only [eqFs, Sem.run_bind, pt303_0, pt303_1, pt303_2, q0, q1, q2, Result.andThen_ok, Sem.run_ite, Sem.run_pure]
  have he : decide (x = y) = (decide (x.kind = y.kind) && (decide (x.round = y.round) && (decide (x.replica = y.replica)))) := by
    rw [Bool.eq_iff_iff]; simp only [Bool.and_eq_true, decide_eq_true_eq]; exact GTallyVoter.ext_all x y
  rw [he]
  generalize decide (x.kind = y.kind) = c0; generalize decide (x.round = y.round) = c1; generalize decide (x.replica = y.replica) = c2
  cases c0 <;> cases c1 <;> cases c2 <;> simp
@[go_sem ↓ high] theorem xq_GTallyVoter (ρ : Operand → Value) (dst : Option Tmp) (x y : Operand) (ty yt : TypeId) (pos : String) (after : Array Edge) (guard : Option (Nat × Bool)) : execOp ρ { dst, op := .binOp .eql 303 x y yt, type := ty, pos, after, guard } = (do pure (.value (← gBin .eql 303 x y (ρ x) (ρ y)))) := ex_eql ..
@[go_sem ↓ high] theorem xn_GTallyVoter (ρ : Operand → Value) (dst : Option Tmp) (x y : Operand) (ty yt : TypeId) (pos : String) (after : Array Edge) (guard : Option (Nat × Bool)) : execOp ρ { dst, op := .binOp .neq 303 x y yt, type := ty, pos, after, guard } = (do pure (.value (← gBin .neq 303 x y (ρ x) (ρ y)))) := ex_neq ..
theorem eg_GTallyVoter : Tryz.prog.eqGuardType Tryz.prog.depth 303 = false := by kernel_rfl
@[go_sem ↓ high] theorem eql_GTallyVoter (w : World) (ox oy : Operand) (x y : GTallyVoter) : (gBin .eql 303 ox oy (GTallyVoter.val x) (GTallyVoter.val y)).run Tryz.prog w = .ok (.bool (decide (x = y))) w := by
  have h2 := eq_GTallyVoter w 9998 x y
  rw [GTallyVoter.val_eq, GTallyVoter.val_eq] at h2 ⊢
  have h := run_eqGuard_agg (P := Tryz.prog) w .eql 303 ox oy (Enc.enc x).toArray (Enc.enc y).toArray eg_GTallyVoter
  unfold gBin
  simp only [Sem.run_bind, h, Result.andThen_ok, run_eql_struct, h2]
@[go_sem ↓ high] theorem neq_GTallyVoter (w : World) (ox oy : Operand) (x y : GTallyVoter) : (gBin .neq 303 ox oy (GTallyVoter.val x) (GTallyVoter.val y)).run Tryz.prog w = .ok (.bool (!decide (x = y))) w := by
  have h2 := eq_GTallyVoter w 9998 x y
  rw [GTallyVoter.val_eq, GTallyVoter.val_eq] at h2 ⊢
  have h := run_eqGuard_agg (P := Tryz.prog) w .neq 303 ox oy (Enc.enc x).toArray (Enc.enc y).toArray eg_GTallyVoter
  unfold gBin
  simp only [Sem.run_bind, h, Result.andThen_ok, run_neq_struct, h2]

/-! ### gavel/tally.turn -/
structure GTallyTurn where
  kind : Int
  round : Int
deriving DecidableEq
instance : Inhabited GTallyTurn := ⟨⟨0, 0⟩⟩
def GTallyTurn.enc (x : GTallyTurn) : List Value := [(.int .i64 x.kind)] ++ ([(.int .i64 x.round)])
theorem GTallyTurn.enc_len (x : GTallyTurn) : x.enc.length = 2 := by simp [GTallyTurn.enc]
theorem GTallyTurn.enc_one (x : GTallyTurn) : ∀ u ∈ x.enc, u.oneCell' = true := by
  intro u hu
  simp only [GTallyTurn.enc, List.mem_append, List.mem_singleton] at hu
  rcases hu with hu | hu
  · subst hu; rfl
  · subst hu; rfl
theorem GTallyTurn.enc_inj (x y : GTallyTurn) (h : x.enc = y.enc) : x = y := by
  obtain ⟨a0, a1⟩ := x
  obtain ⟨b0, b1⟩ := y
  simp only [GTallyTurn.enc] at h
  obtain ⟨p0, q0⟩ := List.append_inj h (rfl)
  have e0 : a0 = b0 := by have := List.head_eq_of_cons_eq p0; injection this
  have e1 : a1 = b1 := by have := List.head_eq_of_cons_eq q0; injection this
  rw [e0, e1]
instance : Enc GTallyTurn where
  n := 2
  enc := GTallyTurn.enc
  pos := by omega
  len := GTallyTurn.enc_len
  one := GTallyTurn.enc_one
  inj := GTallyTurn.enc_inj
@[go_sem] theorem GTallyTurn.n_eq : Enc.n GTallyTurn = 2 := rfl
@[irreducible] def GTallyTurn.val (x : GTallyTurn) : Value := .agg x.enc.toArray
theorem GTallyTurn.val_eq (x : GTallyTurn) : GTallyTurn.val x = .agg (Enc.enc x).toArray := by unfold GTallyTurn.val; rfl
theorem GTallyTurn.ext_all (x y : GTallyTurn) : x = y ↔ x.kind = y.kind ∧ x.round = y.round := by
  constructor
  · intro h; cases h; simp
  · intro h; cases x; cases y; simp_all
theorem uu307 : Tryz.prog.underlying 307 = some (.struct (Tryz.prog.fieldsOf 307)) := by kernel_rfl
theorem st307 : Tryz.prog.stoodInHeld 307 = false := by kernel_rfl
theorem fl307 : fieldTO Tryz.prog 307 = [(3, 0), (3, 1)] := by kernel_rfl
theorem nb307 : noBlank Tryz.prog 307 = true := by kernel_rfl
@[go_sem ↓ high] theorem xl_GTallyTurn (ρ : Operand → Value) (dst : Option Tmp) (x : Operand) (ty : TypeId) (pos : String) (after : Array Edge) (guard : Option (Nat × Bool)) : execOp ρ { dst, op := .load 307 x, type := ty, pos, after, guard } = (do pure (.value (← gLoad 307 (ρ x)))) := ex_load ..
@[go_sem ↓ high] theorem xs_GTallyTurn (ρ : Operand → Value) (dst : Option Tmp) (x y : Operand) (ty : TypeId) (pos : String) (after : Array Edge) (guard : Option (Nat × Bool)) : execOp ρ { dst, op := .store 307 x y, type := ty, pos, after, guard } = (do gStore 307 (ρ x) (ρ y); pure .skip) := ex_store ..
@[go_sem ↓ high] theorem xb_GTallyTurn (ρ : Operand → Value) (dst : Option Tmp) (x : Operand) (ty : TypeId) (pos : String) (after : Array Edge) (guard : Option (Nat × Bool)) : execOp ρ { dst, op := .box 307 x, type := ty, pos, after, guard } = (do pure (.value (← gBox 307 (ρ x)))) := ex_box ..
@[go_sem ↓ high] theorem xa_GTallyTurn (ρ : Operand → Value) (dst : Option Tmp) (ty : TypeId) (pos : String) (after : Array Edge) (guard : Option (Nat × Bool)) : execOp ρ { dst, op := .alloc 307, type := ty, pos, after, guard } = (do pure (.value (← gAlloc 307))) := ex_alloc ..
theorem ag307 : aggT Tryz.prog 307 = true := by kernel_rfl
theorem sz307 : sizeT Tryz.prog 307 = 2 := by kernel_rfl
section
variable (w : World)
@[go_sem ↓ high] theorem ld_GTallyTurn (a : Addr) : (gLoad 307 (.pointer (some a))).run Tryz.prog w = ofOpt ((get? GTallyTurn w a).map GTallyTurn.val) w (noLoad Tryz.prog 307 a w) := by
  unfold gLoad; exact run_loadAt_opt ag307 sz307 GTallyTurn.val GTallyTurn.val_eq
@[go_sem ↓ high] theorem st_GTallyTurn (a : Addr) (x : GTallyTurn) : (gStore 307 (.pointer (some a)) (GTallyTurn.val x)).run Tryz.prog w = okU' ((get? GTallyTurn w a).isSome && blkFree w a.block) (World.putCells w a (GTallyTurn.enc x)) (noStore Tryz.prog 307 (.pointer (some a)) (GTallyTurn.val x) w) := run_gStore_any sz307 GTallyTurn.val GTallyTurn.val_eq w a x
@[go_sem ↓ high] theorem bx_GTallyTurn (x : GTallyTurn) : (gBox 307 (GTallyTurn.val x)).run Tryz.prog w = .ok (.pointer (some ⟨w.heap.size, 0, none⟩)) (w.alloc (.cells (GTallyTurn.enc x).toArray 307)) := by
  rw [GTallyTurn.val_eq]; exact run_gBox _ w
end
theorem lk307_0 (x : GTallyTurn) : x.enc[0]? = some (.int .i64 x.kind) := by
  simp [GTallyTurn.enc, List.getElem?_append]
theorem pt307_0 (w : World) (x : GTallyTurn) : (part 3 x.enc.toArray 0).run Tryz.prog w = .ok (.int .i64 x.kind) w := run_part_one na3 us3 (lk307_0 x)
@[go_sem ↓ high] theorem fd307_0 (w : World) (x : GTallyTurn) : (gField 307 (GTallyTurn.val x) 0).run Tryz.prog w = .ok (.int .i64 x.kind) w := by
  rw [GTallyTurn.val_eq]
  exact run_gField w uu307 (by rw [fl307]; rfl) (pt307_0 w x)
theorem lk307_1 (x : GTallyTurn) : x.enc[1]? = some (.int .i64 x.round) := by
  simp [GTallyTurn.enc, List.getElem?_append]
theorem pt307_1 (w : World) (x : GTallyTurn) : (part 3 x.enc.toArray 1).run Tryz.prog w = .ok (.int .i64 x.round) w := run_part_one na3 us3 (lk307_1 x)
@[go_sem ↓ high] theorem fd307_1 (w : World) (x : GTallyTurn) : (gField 307 (GTallyTurn.val x) 1).run Tryz.prog w = .ok (.int .i64 x.round) w := by
  rw [GTallyTurn.val_eq]
  exact run_gField w uu307 (by rw [fl307]; rfl) (pt307_1 w x)
@[go_sem ↓ high] theorem xf_GTallyTurn (ρ : Operand → Value) (dst : Option Tmp) (x : Operand) (i : Nat) (ty : TypeId) (pos : String) (after : Array Edge) (guard : Option (Nat × Bool)) : execOp ρ { dst, op := .field 307 x i, type := ty, pos, after, guard } = (do pure (.value (← gField 307 (ρ x) i))) := ex_field ..
theorem zr307 : zeroT Tryz.prog 307 = some (.agg (GTallyTurn.enc default).toArray) := by kernel_rfl
@[go_sem ↓ high] theorem al_GTallyTurn (w : World) : (gAlloc 307).run Tryz.prog w = .ok (.pointer (some ⟨w.heap.size, 0, none⟩)) (w.alloc (.cells (GTallyTurn.enc default).toArray 307)) := run_zero_alloc zr307 w
@[go_sem] theorem pc_GTallyTurn (w : World) (n : Nat) (x z : GTallyTurn) (hn : n = w.heap.size) : World.putCells (w.alloc (.cells (GTallyTurn.enc z).toArray 307)) ⟨n, 0, none⟩ (GTallyTurn.enc x) = w.alloc (.cells (GTallyTurn.enc x).toArray 307) := putCells_top x z hn
theorem GTallyTurn.at_kind {w : World} {a : Addr} {x : GTallyTurn} (h : get? GTallyTurn w a = some x) : w.cell? (a.add 0) = some (.int .i64 x.kind) := (get?_iff.1 h) _ _ (lk307_0 x)
theorem GTallyTurn.at_round {w : World} {a : Addr} {x : GTallyTurn} (h : get? GTallyTurn w a = some x) : w.cell? (a.add 1) = some (.int .i64 x.round) := (get?_iff.1 h) _ _ (lk307_1 x)
@[go_sem] theorem nl307_0 (x : GTallyTurn) : x.enc[0]? = some (.int .i64 x.kind) := by
  have h := (GTallyTurn.at_kind (get?_new (w := (default : World)) 307 x))
  simp only [Addr.add_lit, Nat.zero_add, Nat.reduceAdd, World.cell?_alloc_new, List.getElem?_toArray] at h
  exact h
@[go_sem] theorem nl307_1 (x : GTallyTurn) : x.enc[1]? = some (.int .i64 x.round) := by
  have h := (GTallyTurn.at_round (get?_new (w := (default : World)) 307 x))
  simp only [Addr.add_lit, Nat.zero_add, Nat.reduceAdd, World.cell?_alloc_new, List.getElem?_toArray] at h
  exact h
@[go_sem] theorem nw307 (w : World) (n : Nat) (x : GTallyTurn) (hn : n = w.heap.size) : get? GTallyTurn (w.alloc (.cells (GTallyTurn.enc x).toArray 307)) ⟨n, 0, none⟩ = some x := by
  subst hn; exact get?_new 307 x
theorem pl307 : ((Tryz.prog.fieldsOf 307).toList.mapM fun f => (Tryz.prog.info? f.type).map fun i => (f.offset, i.size)) = some [(0, 1), (1, 1)] := by kernel_rfl
theorem fs307_0 (x : GTallyTurn) (v : Int) (rest : List (Nat × Value)) : Instr.fill (fun i => ([(0, 1), (1, 1)] : List (Nat × Nat))[i]?) x.enc.toArray ((0, (.int .i64 v)) :: rest) = Instr.fill (fun i => ([(0, 1), (1, 1)] : List (Nat × Nat))[i]?) ({ x with kind := v } : GTallyTurn).enc.toArray rest := by
  have h := fill_seg [(0, 1), (1, 1)] 0 0 1 rfl (([] : List Value)) ([(.int .i64 x.kind)]) ([(.int .i64 x.round)] ++ (([] : List Value))) ([(.int .i64 v)]) (.int .i64 v) rest (rfl) (by simp) (by simp) (by simp)
  have e1 : x.enc = (([] : List Value)) ++ ([(.int .i64 x.kind)] ++ ([(.int .i64 x.round)] ++ (([] : List Value)))) := by simp only [GTallyTurn.enc, List.nil_append, List.append_assoc, List.append_nil]
  have e2 : ({ x with kind := v } : GTallyTurn).enc = (([] : List Value)) ++ ([(.int .i64 v)] ++ ([(.int .i64 x.round)] ++ (([] : List Value)))) := by simp only [GTallyTurn.enc, List.nil_append, List.append_assoc, List.append_nil]
  rw [e1, e2]; exact h
theorem fs307_1 (x : GTallyTurn) (v : Int) (rest : List (Nat × Value)) : Instr.fill (fun i => ([(0, 1), (1, 1)] : List (Nat × Nat))[i]?) x.enc.toArray ((1, (.int .i64 v)) :: rest) = Instr.fill (fun i => ([(0, 1), (1, 1)] : List (Nat × Nat))[i]?) ({ x with round := v } : GTallyTurn).enc.toArray rest := by
  have h := fill_seg [(0, 1), (1, 1)] 1 1 1 rfl (([] : List Value) ++ ([(.int .i64 x.kind)])) ([(.int .i64 x.round)]) (([] : List Value)) ([(.int .i64 v)]) (.int .i64 v) rest (rfl) (by simp) (by simp) (by simp)
  have e1 : x.enc = (([] : List Value) ++ ([(.int .i64 x.kind)])) ++ ([(.int .i64 x.round)] ++ (([] : List Value))) := by simp only [GTallyTurn.enc, List.nil_append, List.append_assoc, List.append_nil]
  have e2 : ({ x with round := v } : GTallyTurn).enc = (([] : List Value) ++ ([(.int .i64 x.kind)])) ++ ([(.int .i64 v)] ++ (([] : List Value))) := by simp only [GTallyTurn.enc, List.nil_append, List.append_assoc, List.append_nil]
  rw [e1, e2]; exact h
@[go_sem ↓ high] theorem xd_GTallyTurn (ρ : Operand → Value) (dst : Option Tmp) (ps : Array (Nat × Operand)) (ty : TypeId) (pos : String) (after : Array Edge) (guard : Option (Nat × Bool)) : execOp ρ { dst, op := .build 307 ps, type := ty, pos, after, guard } = (do pure (.value (← gBuild 307 (ps.map fun (i, x) => (i, ρ x))))) := ex_build ..
@[go_sem ↓ high] theorem bd307_0 (w : World) (v0 : Int) (v1 : Int) : (gBuild 307 #[(0, (.int .i64 v0)), (1, (.int .i64 v1))]).run Tryz.prog w = .ok (GTallyTurn.val ⟨v0, v1⟩) w := by
  rw [GTallyTurn.val_eq]
  refine run_gBuild_of uu307 zr307 pl307 ?_ w
  show Instr.fill _ (GTallyTurn.enc default).toArray [(0, (.int .i64 v0)), (1, (.int .i64 v1))] = _
  rw [fs307_0, fs307_1]; rfl
theorem eq_GTallyTurn (w : World) (d : Nat) (x y : GTallyTurn) : (Op.equalIn (d + 2) 307 (GTallyTurn.val x) (GTallyTurn.val y)).run Tryz.prog w = .ok (decide (x = y)) w := by
  have q0 : ∀ a b, (Op.equalIn (d + 1) 3 (.int .i64 a) (.int .i64 b)).run Tryz.prog w = .ok (decide (a = b)) w := fun a b => by rw [run_equalIn_int w (d + 0) 3 .i64 .i64 a b uk3]; congr 1
  have q1 : ∀ a b, (Op.equalIn (d + 1) 3 (.int .i64 a) (.int .i64 b)).run Tryz.prog w = .ok (decide (a = b)) w := fun a b => by rw [run_equalIn_int w (d + 0) 3 .i64 .i64 a b uk3]; congr 1
  have h := run_equalIn_fields (d + 1) x.enc.toArray y.enc.toArray w uu307 st307 nb307
  rw [fl307] at h
  unfold GTallyTurn.val
  refine h.trans ?_
  clear h
  simp only [eqFs, Sem.run_bind, pt307_0, pt307_1, q0, q1, Result.andThen_ok, Sem.run_ite, Sem.run_pure]
  have he : decide (x = y) = (decide (x.kind = y.kind) && (decide (x.round = y.round))) := by
    rw [Bool.eq_iff_iff]; simp only [Bool.and_eq_true, decide_eq_true_eq]; exact GTallyTurn.ext_all x y
  rw [he]
  generalize decide (x.kind = y.kind) = c0; generalize decide (x.round = y.round) = c1
  cases c0 <;> cases c1 <;> simp
@[go_sem ↓ high] theorem xq_GTallyTurn (ρ : Operand → Value) (dst : Option Tmp) (x y : Operand) (ty yt : TypeId) (pos : String) (after : Array Edge) (guard : Option (Nat × Bool)) : execOp ρ { dst, op := .binOp .eql 307 x y yt, type := ty, pos, after, guard } = (do pure (.value (← gBin .eql 307 x y (ρ x) (ρ y)))) := ex_eql ..
@[go_sem ↓ high] theorem xn_GTallyTurn (ρ : Operand → Value) (dst : Option Tmp) (x y : Operand) (ty yt : TypeId) (pos : String) (after : Array Edge) (guard : Option (Nat × Bool)) : execOp ρ { dst, op := .binOp .neq 307 x y yt, type := ty, pos, after, guard } = (do pure (.value (← gBin .neq 307 x y (ρ x) (ρ y)))) := ex_neq ..
theorem eg_GTallyTurn : Tryz.prog.eqGuardType Tryz.prog.depth 307 = false := by kernel_rfl
@[go_sem ↓ high] theorem eql_GTallyTurn (w : World) (ox oy : Operand) (x y : GTallyTurn) : (gBin .eql 307 ox oy (GTallyTurn.val x) (GTallyTurn.val y)).run Tryz.prog w = .ok (.bool (decide (x = y))) w := by
  have h2 := eq_GTallyTurn w 9998 x y
  rw [GTallyTurn.val_eq, GTallyTurn.val_eq] at h2 ⊢
  have h := run_eqGuard_agg (P := Tryz.prog) w .eql 307 ox oy (Enc.enc x).toArray (Enc.enc y).toArray eg_GTallyTurn
  unfold gBin
  simp only [Sem.run_bind, h, Result.andThen_ok, run_eql_struct, h2]
@[go_sem ↓ high] theorem neq_GTallyTurn (w : World) (ox oy : Operand) (x y : GTallyTurn) : (gBin .neq 307 ox oy (GTallyTurn.val x) (GTallyTurn.val y)).run Tryz.prog w = .ok (.bool (!decide (x = y))) w := by
  have h2 := eq_GTallyTurn w 9998 x y
  rw [GTallyTurn.val_eq, GTallyTurn.val_eq] at h2 ⊢
  have h := run_eqGuard_agg (P := Tryz.prog) w .neq 307 ox oy (Enc.enc x).toArray (Enc.enc y).toArray eg_GTallyTurn
  unfold gBin
  simp only [Sem.run_bind, h, Result.andThen_ok, run_neq_struct, h2]

/-! ### gavel/core.State -/
structure GCoreState where
  round : Int
  step : Int
  lockedRound : Int
  validRound : Int
  locked : GHash
  valid : GHash
  decided : Bool
  decision : GHash
deriving DecidableEq
instance : Inhabited GCoreState := ⟨⟨0, 0, 0, 0, default, default, false, default⟩⟩
def GCoreState.enc (x : GCoreState) : List Value := [(.int .i64 x.round)] ++ ([(.int .i64 x.step)] ++ ([(.int .i64 x.lockedRound)] ++ ([(.int .i64 x.validRound)] ++ (x.locked.enc ++ (x.valid.enc ++ ([(.bool x.decided)] ++ (x.decision.enc)))))))
theorem GCoreState.enc_len (x : GCoreState) : x.enc.length = 101 := by simp [GCoreState.enc, GHash.enc_len]
theorem GCoreState.enc_one (x : GCoreState) : ∀ u ∈ x.enc, u.oneCell' = true := by
  intro u hu
  simp only [GCoreState.enc, List.mem_append, List.mem_singleton] at hu
  rcases hu with hu | hu | hu | hu | hu | hu | hu | hu
  · subst hu; rfl
  · subst hu; rfl
  · subst hu; rfl
  · subst hu; rfl
  · exact Enc.one (α := GHash) _ _ hu
  · exact Enc.one (α := GHash) _ _ hu
  · subst hu; rfl
  · exact Enc.one (α := GHash) _ _ hu
theorem GCoreState.enc_inj (x y : GCoreState) (h : x.enc = y.enc) : x = y := by
  obtain ⟨a0, a1, a2, a3, a4, a5, a6, a7⟩ := x
  obtain ⟨b0, b1, b2, b3, b4, b5, b6, b7⟩ := y
  simp only [GCoreState.enc] at h
  obtain ⟨p0, q0⟩ := List.append_inj h (rfl)
  have e0 : a0 = b0 := by have := List.head_eq_of_cons_eq p0; injection this
  obtain ⟨p1, q1⟩ := List.append_inj q0 (rfl)
  have e1 : a1 = b1 := by have := List.head_eq_of_cons_eq p1; injection this
  obtain ⟨p2, q2⟩ := List.append_inj q1 (rfl)
  have e2 : a2 = b2 := by have := List.head_eq_of_cons_eq p2; injection this
  obtain ⟨p3, q3⟩ := List.append_inj q2 (rfl)
  have e3 : a3 = b3 := by have := List.head_eq_of_cons_eq p3; injection this
  obtain ⟨p4, q4⟩ := List.append_inj q3 (by simp [GHash.enc_len])
  have e4 := Enc.inj (α := GHash) _ _ p4
  obtain ⟨p5, q5⟩ := List.append_inj q4 (by simp [GHash.enc_len])
  have e5 := Enc.inj (α := GHash) _ _ p5
  obtain ⟨p6, q6⟩ := List.append_inj q5 (rfl)
  have e6 : a6 = b6 := by have := List.head_eq_of_cons_eq p6; injection this
  have e7 := Enc.inj (α := GHash) _ _ q6
  rw [e0, e1, e2, e3, e4, e5, e6, e7]
instance : Enc GCoreState where
  n := 101
  enc := GCoreState.enc
  pos := by omega
  len := GCoreState.enc_len
  one := GCoreState.enc_one
  inj := GCoreState.enc_inj
@[go_sem] theorem GCoreState.n_eq : Enc.n GCoreState = 101 := rfl
@[irreducible] def GCoreState.val (x : GCoreState) : Value := .agg x.enc.toArray
theorem GCoreState.val_eq (x : GCoreState) : GCoreState.val x = .agg (Enc.enc x).toArray := by unfold GCoreState.val; rfl
theorem GCoreState.ext_all (x y : GCoreState) : x = y ↔ x.round = y.round ∧ x.step = y.step ∧ x.lockedRound = y.lockedRound ∧ x.validRound = y.validRound ∧ x.locked = y.locked ∧ x.valid = y.valid ∧ x.decided = y.decided ∧ x.decision = y.decision := by
  constructor
  · intro h; cases h; simp
  · intro h; cases x; cases y; simp_all
theorem uu83 : Tryz.prog.underlying 83 = some (.struct (Tryz.prog.fieldsOf 83)) := by kernel_rfl
theorem st83 : Tryz.prog.stoodInHeld 83 = false := by kernel_rfl
theorem fl83 : fieldTO Tryz.prog 83 = [(3, 0), (3, 1), (3, 2), (3, 3), (37, 4), (37, 36), (4, 68), (37, 69)] := by kernel_rfl
theorem nb83 : noBlank Tryz.prog 83 = true := by kernel_rfl
@[go_sem ↓ high] theorem xl_GCoreState (ρ : Operand → Value) (dst : Option Tmp) (x : Operand) (ty : TypeId) (pos : String) (after : Array Edge) (guard : Option (Nat × Bool)) : execOp ρ { dst, op := .load 83 x, type := ty, pos, after, guard } = (do pure (.value (← gLoad 83 (ρ x)))) := ex_load ..
@[go_sem ↓ high] theorem xs_GCoreState (ρ : Operand → Value) (dst : Option Tmp) (x y : Operand) (ty : TypeId) (pos : String) (after : Array Edge) (guard : Option (Nat × Bool)) : execOp ρ { dst, op := .store 83 x y, type := ty, pos, after, guard } = (do gStore 83 (ρ x) (ρ y); pure .skip) := ex_store ..
@[go_sem ↓ high] theorem xb_GCoreState (ρ : Operand → Value) (dst : Option Tmp) (x : Operand) (ty : TypeId) (pos : String) (after : Array Edge) (guard : Option (Nat × Bool)) : execOp ρ { dst, op := .box 83 x, type := ty, pos, after, guard } = (do pure (.value (← gBox 83 (ρ x)))) := ex_box ..
@[go_sem ↓ high] theorem xa_GCoreState (ρ : Operand → Value) (dst : Option Tmp) (ty : TypeId) (pos : String) (after : Array Edge) (guard : Option (Nat × Bool)) : execOp ρ { dst, op := .alloc 83, type := ty, pos, after, guard } = (do pure (.value (← gAlloc 83))) := ex_alloc ..
theorem ag83 : aggT Tryz.prog 83 = true := by kernel_rfl
theorem sz83 : sizeT Tryz.prog 83 = 101 := by kernel_rfl
section
variable (w : World)
@[go_sem ↓ high] theorem ld_GCoreState (a : Addr) : (gLoad 83 (.pointer (some a))).run Tryz.prog w = ofOpt ((get? GCoreState w a).map GCoreState.val) w (noLoad Tryz.prog 83 a w) := by
  unfold gLoad; exact run_loadAt_opt ag83 sz83 GCoreState.val GCoreState.val_eq
@[go_sem ↓ high] theorem st_GCoreState (a : Addr) (x : GCoreState) : (gStore 83 (.pointer (some a)) (GCoreState.val x)).run Tryz.prog w = okU' ((get? GCoreState w a).isSome && blkFree w a.block) (World.putCells w a (GCoreState.enc x)) (noStore Tryz.prog 83 (.pointer (some a)) (GCoreState.val x) w) := run_gStore_any sz83 GCoreState.val GCoreState.val_eq w a x
@[go_sem ↓ high] theorem bx_GCoreState (x : GCoreState) : (gBox 83 (GCoreState.val x)).run Tryz.prog w = .ok (.pointer (some ⟨w.heap.size, 0, none⟩)) (w.alloc (.cells (GCoreState.enc x).toArray 83)) := by
  rw [GCoreState.val_eq]; exact run_gBox _ w
end
theorem lk83_0 (x : GCoreState) : x.enc[0]? = some (.int .i64 x.round) := by
  simp [GCoreState.enc, List.getElem?_append]
theorem pt83_0 (w : World) (x : GCoreState) : (part 3 x.enc.toArray 0).run Tryz.prog w = .ok (.int .i64 x.round) w := run_part_one na3 us3 (lk83_0 x)
@[go_sem ↓ high] theorem fd83_0 (w : World) (x : GCoreState) : (gField 83 (GCoreState.val x) 0).run Tryz.prog w = .ok (.int .i64 x.round) w := by
  rw [GCoreState.val_eq]
  exact run_gField w uu83 (by rw [fl83]; rfl) (pt83_0 w x)
theorem lk83_1 (x : GCoreState) : x.enc[1]? = some (.int .i64 x.step) := by
  simp [GCoreState.enc, List.getElem?_append]
theorem pt83_1 (w : World) (x : GCoreState) : (part 3 x.enc.toArray 1).run Tryz.prog w = .ok (.int .i64 x.step) w := run_part_one na3 us3 (lk83_1 x)
@[go_sem ↓ high] theorem fd83_1 (w : World) (x : GCoreState) : (gField 83 (GCoreState.val x) 1).run Tryz.prog w = .ok (.int .i64 x.step) w := by
  rw [GCoreState.val_eq]
  exact run_gField w uu83 (by rw [fl83]; rfl) (pt83_1 w x)
theorem lk83_2 (x : GCoreState) : x.enc[2]? = some (.int .i64 x.lockedRound) := by
  simp [GCoreState.enc, List.getElem?_append]
theorem pt83_2 (w : World) (x : GCoreState) : (part 3 x.enc.toArray 2).run Tryz.prog w = .ok (.int .i64 x.lockedRound) w := run_part_one na3 us3 (lk83_2 x)
@[go_sem ↓ high] theorem fd83_2 (w : World) (x : GCoreState) : (gField 83 (GCoreState.val x) 2).run Tryz.prog w = .ok (.int .i64 x.lockedRound) w := by
  rw [GCoreState.val_eq]
  exact run_gField w uu83 (by rw [fl83]; rfl) (pt83_2 w x)
theorem lk83_3 (x : GCoreState) : x.enc[3]? = some (.int .i64 x.validRound) := by
  simp [GCoreState.enc, List.getElem?_append]
theorem pt83_3 (w : World) (x : GCoreState) : (part 3 x.enc.toArray 3).run Tryz.prog w = .ok (.int .i64 x.validRound) w := run_part_one na3 us3 (lk83_3 x)
@[go_sem ↓ high] theorem fd83_3 (w : World) (x : GCoreState) : (gField 83 (GCoreState.val x) 3).run Tryz.prog w = .ok (.int .i64 x.validRound) w := by
  rw [GCoreState.val_eq]
  exact run_gField w uu83 (by rw [fl83]; rfl) (pt83_3 w x)
theorem ds83_4 (x : GCoreState) : (x.enc.drop 4).take 32 = x.locked.enc := by
  unfold GCoreState.enc
  simp [List.drop_append, List.drop_eq_nil_of_le] <;> (rw [List.take_append_of_le_length (by simp [GHash.enc_len])]; exact List.take_of_length_le (by simp [GHash.enc_len]))
theorem pt83_4 (w : World) (x : GCoreState) : (part 37 x.enc.toArray 4).run Tryz.prog w = .ok (x.locked.val) w := by
  have h := run_part_agg (P := Tryz.prog) (w := w) (cs := x.enc) (ds := x.locked.enc) (off := 4) ag37 (by rw [GHash.enc_len]; exact sz37) (by simp [GHash.enc_len]) (by rw [GHash.enc_len]; exact ds83_4 x)
  rw [h, GHash.val_eq]; rfl
@[go_sem ↓ high] theorem fd83_4 (w : World) (x : GCoreState) : (gField 83 (GCoreState.val x) 4).run Tryz.prog w = .ok (x.locked.val) w := by
  rw [GCoreState.val_eq]
  exact run_gField w uu83 (by rw [fl83]; rfl) (pt83_4 w x)
theorem ds83_5 (x : GCoreState) : (x.enc.drop 36).take 32 = x.valid.enc := by
  unfold GCoreState.enc
  simp [List.drop_append, List.drop_eq_nil_of_le, GHash.enc_len] <;> (rw [List.take_append_of_le_length (by simp [GHash.enc_len])]; exact List.take_of_length_le (by simp [GHash.enc_len]))
theorem pt83_5 (w : World) (x : GCoreState) : (part 37 x.enc.toArray 36).run Tryz.prog w = .ok (x.valid.val) w := by
  have h := run_part_agg (P := Tryz.prog) (w := w) (cs := x.enc) (ds := x.valid.enc) (off := 36) ag37 (by rw [GHash.enc_len]; exact sz37) (by simp [GHash.enc_len]) (by rw [GHash.enc_len]; exact ds83_5 x)
  rw [h, GHash.val_eq]; rfl
@[go_sem ↓ high] theorem fd83_5 (w : World) (x : GCoreState) : (gField 83 (GCoreState.val x) 5).run Tryz.prog w = .ok (x.valid.val) w := by
  rw [GCoreState.val_eq]
  exact run_gField w uu83 (by rw [fl83]; rfl) (pt83_5 w x)
theorem lk83_6 (x : GCoreState) : x.enc[68]? = some (.bool x.decided) := by
  simp [GCoreState.enc, List.getElem?_append, GHash.enc_len]
theorem pt83_6 (w : World) (x : GCoreState) : (part 4 x.enc.toArray 68).run Tryz.prog w = .ok (.bool x.decided) w := run_part_one na4 us4 (lk83_6 x)
@[go_sem ↓ high] theorem fd83_6 (w : World) (x : GCoreState) : (gField 83 (GCoreState.val x) 6).run Tryz.prog w = .ok (.bool x.decided) w := by
  rw [GCoreState.val_eq]
  exact run_gField w uu83 (by rw [fl83]; rfl) (pt83_6 w x)
theorem ds83_7 (x : GCoreState) : (x.enc.drop 69).take 32 = x.decision.enc := by
  unfold GCoreState.enc
  simp [List.drop_append, List.drop_eq_nil_of_le, GHash.enc_len] <;> (exact List.take_of_length_le (by simp [GHash.enc_len]))
theorem pt83_7 (w : World) (x : GCoreState) : (part 37 x.enc.toArray 69).run Tryz.prog w = .ok (x.decision.val) w := by
  have h := run_part_agg (P := Tryz.prog) (w := w) (cs := x.enc) (ds := x.decision.enc) (off := 69) ag37 (by rw [GHash.enc_len]; exact sz37) (by simp [GHash.enc_len]) (by rw [GHash.enc_len]; exact ds83_7 x)
  rw [h, GHash.val_eq]; rfl
@[go_sem ↓ high] theorem fd83_7 (w : World) (x : GCoreState) : (gField 83 (GCoreState.val x) 7).run Tryz.prog w = .ok (x.decision.val) w := by
  rw [GCoreState.val_eq]
  exact run_gField w uu83 (by rw [fl83]; rfl) (pt83_7 w x)
@[go_sem ↓ high] theorem xf_GCoreState (ρ : Operand → Value) (dst : Option Tmp) (x : Operand) (i : Nat) (ty : TypeId) (pos : String) (after : Array Edge) (guard : Option (Nat × Bool)) : execOp ρ { dst, op := .field 83 x i, type := ty, pos, after, guard } = (do pure (.value (← gField 83 (ρ x) i))) := ex_field ..
theorem zr83 : zeroT Tryz.prog 83 = some (.agg (GCoreState.enc default).toArray) := by kernel_rfl
@[go_sem ↓ high] theorem al_GCoreState (w : World) : (gAlloc 83).run Tryz.prog w = .ok (.pointer (some ⟨w.heap.size, 0, none⟩)) (w.alloc (.cells (GCoreState.enc default).toArray 83)) := run_zero_alloc zr83 w
@[go_sem] theorem pc_GCoreState (w : World) (n : Nat) (x z : GCoreState) (hn : n = w.heap.size) : World.putCells (w.alloc (.cells (GCoreState.enc z).toArray 83)) ⟨n, 0, none⟩ (GCoreState.enc x) = w.alloc (.cells (GCoreState.enc x).toArray 83) := putCells_top x z hn
theorem GCoreState.at_round {w : World} {a : Addr} {x : GCoreState} (h : get? GCoreState w a = some x) : w.cell? (a.add 0) = some (.int .i64 x.round) := (get?_iff.1 h) _ _ (lk83_0 x)
theorem GCoreState.at_step {w : World} {a : Addr} {x : GCoreState} (h : get? GCoreState w a = some x) : w.cell? (a.add 1) = some (.int .i64 x.step) := (get?_iff.1 h) _ _ (lk83_1 x)
theorem GCoreState.at_lockedRound {w : World} {a : Addr} {x : GCoreState} (h : get? GCoreState w a = some x) : w.cell? (a.add 2) = some (.int .i64 x.lockedRound) := (get?_iff.1 h) _ _ (lk83_2 x)
theorem GCoreState.at_validRound {w : World} {a : Addr} {x : GCoreState} (h : get? GCoreState w a = some x) : w.cell? (a.add 3) = some (.int .i64 x.validRound) := (get?_iff.1 h) _ _ (lk83_3 x)
theorem GCoreState.at_locked {w : World} {a : Addr} {x : GCoreState} (h : get? GCoreState w a = some x) : get? GHash w (a.add 4) = some x.locked := by
  rw [get?_iff] at h ⊢
  refine h.sub 4 fun j v hv => ?_
  have hd := ds83_4 x
  have hj : j < 32 := by have := (List.getElem?_eq_some_iff.1 hv).1; rwa [Enc.len] at this
  show x.enc[4 + j]? = some v
  rw [← List.getElem?_drop, ← List.getElem?_take_of_lt hj, hd]; exact hv
theorem GCoreState.at_valid {w : World} {a : Addr} {x : GCoreState} (h : get? GCoreState w a = some x) : get? GHash w (a.add 36) = some x.valid := by
  rw [get?_iff] at h ⊢
  refine h.sub 36 fun j v hv => ?_
  have hd := ds83_5 x
  have hj : j < 32 := by have := (List.getElem?_eq_some_iff.1 hv).1; rwa [Enc.len] at this
  show x.enc[36 + j]? = some v
  rw [← List.getElem?_drop, ← List.getElem?_take_of_lt hj, hd]; exact hv
theorem GCoreState.at_decided {w : World} {a : Addr} {x : GCoreState} (h : get? GCoreState w a = some x) : w.cell? (a.add 68) = some (.bool x.decided) := (get?_iff.1 h) _ _ (lk83_6 x)
theorem GCoreState.at_decision {w : World} {a : Addr} {x : GCoreState} (h : get? GCoreState w a = some x) : get? GHash w (a.add 69) = some x.decision := by
  rw [get?_iff] at h ⊢
  refine h.sub 69 fun j v hv => ?_
  have hd := ds83_7 x
  have hj : j < 32 := by have := (List.getElem?_eq_some_iff.1 hv).1; rwa [Enc.len] at this
  show x.enc[69 + j]? = some v
  rw [← List.getElem?_drop, ← List.getElem?_take_of_lt hj, hd]; exact hv
@[go_sem] theorem nw83 (w : World) (n : Nat) (x : GCoreState) (hn : n = w.heap.size) : get? GCoreState (w.alloc (.cells (GCoreState.enc x).toArray 83)) ⟨n, 0, none⟩ = some x := by
  subst hn; exact get?_new 83 x
theorem pl83 : ((Tryz.prog.fieldsOf 83).toList.mapM fun f => (Tryz.prog.info? f.type).map fun i => (f.offset, i.size)) = some [(0, 1), (1, 1), (2, 1), (3, 1), (4, 32), (36, 32), (68, 1), (69, 32)] := by kernel_rfl
theorem fs83_2 (x : GCoreState) (v : Int) (rest : List (Nat × Value)) : Instr.fill (fun i => ([(0, 1), (1, 1), (2, 1), (3, 1), (4, 32), (36, 32), (68, 1), (69, 32)] : List (Nat × Nat))[i]?) x.enc.toArray ((2, (.int .i64 v)) :: rest) = Instr.fill (fun i => ([(0, 1), (1, 1), (2, 1), (3, 1), (4, 32), (36, 32), (68, 1), (69, 32)] : List (Nat × Nat))[i]?) ({ x with lockedRound := v } : GCoreState).enc.toArray rest := by
  have h := fill_seg [(0, 1), (1, 1), (2, 1), (3, 1), (4, 32), (36, 32), (68, 1), (69, 32)] 2 2 1 rfl (([] : List Value) ++ ([(.int .i64 x.round)] ++ ([(.int .i64 x.step)]))) ([(.int .i64 x.lockedRound)]) ([(.int .i64 x.validRound)] ++ (x.locked.enc ++ (x.valid.enc ++ ([(.bool x.decided)] ++ (x.decision.enc ++ (([] : List Value))))))) ([(.int .i64 v)]) (.int .i64 v) rest (rfl) (by simp [GHash.enc_len]) (by simp [GHash.enc_len]) (by simp [GHash.enc_len])
  have e1 : x.enc = (([] : List Value) ++ ([(.int .i64 x.round)] ++ ([(.int .i64 x.step)]))) ++ ([(.int .i64 x.lockedRound)] ++ ([(.int .i64 x.validRound)] ++ (x.locked.enc ++ (x.valid.enc ++ ([(.bool x.decided)] ++ (x.decision.enc ++ (([] : List Value)))))))) := by simp only [GCoreState.enc, List.nil_append, List.append_assoc, List.append_nil]
  have e2 : ({ x with lockedRound := v } : GCoreState).enc = (([] : List Value) ++ ([(.int .i64 x.round)] ++ ([(.int .i64 x.step)]))) ++ ([(.int .i64 v)] ++ ([(.int .i64 x.validRound)] ++ (x.locked.enc ++ (x.valid.enc ++ ([(.bool x.decided)] ++ (x.decision.enc ++ (([] : List Value)))))))) := by simp only [GCoreState.enc, List.nil_append, List.append_assoc, List.append_nil]
  rw [e1, e2]; exact h
theorem fs83_3 (x : GCoreState) (v : Int) (rest : List (Nat × Value)) : Instr.fill (fun i => ([(0, 1), (1, 1), (2, 1), (3, 1), (4, 32), (36, 32), (68, 1), (69, 32)] : List (Nat × Nat))[i]?) x.enc.toArray ((3, (.int .i64 v)) :: rest) = Instr.fill (fun i => ([(0, 1), (1, 1), (2, 1), (3, 1), (4, 32), (36, 32), (68, 1), (69, 32)] : List (Nat × Nat))[i]?) ({ x with validRound := v } : GCoreState).enc.toArray rest := by
  have h := fill_seg [(0, 1), (1, 1), (2, 1), (3, 1), (4, 32), (36, 32), (68, 1), (69, 32)] 3 3 1 rfl (([] : List Value) ++ ([(.int .i64 x.round)] ++ ([(.int .i64 x.step)] ++ ([(.int .i64 x.lockedRound)])))) ([(.int .i64 x.validRound)]) (x.locked.enc ++ (x.valid.enc ++ ([(.bool x.decided)] ++ (x.decision.enc ++ (([] : List Value)))))) ([(.int .i64 v)]) (.int .i64 v) rest (rfl) (by simp [GHash.enc_len]) (by simp [GHash.enc_len]) (by simp [GHash.enc_len])
  have e1 : x.enc = (([] : List Value) ++ ([(.int .i64 x.round)] ++ ([(.int .i64 x.step)] ++ ([(.int .i64 x.lockedRound)])))) ++ ([(.int .i64 x.validRound)] ++ (x.locked.enc ++ (x.valid.enc ++ ([(.bool x.decided)] ++ (x.decision.enc ++ (([] : List Value))))))) := by simp only [GCoreState.enc, List.nil_append, List.append_assoc, List.append_nil]
  have e2 : ({ x with validRound := v } : GCoreState).enc = (([] : List Value) ++ ([(.int .i64 x.round)] ++ ([(.int .i64 x.step)] ++ ([(.int .i64 x.lockedRound)])))) ++ ([(.int .i64 v)] ++ (x.locked.enc ++ (x.valid.enc ++ ([(.bool x.decided)] ++ (x.decision.enc ++ (([] : List Value))))))) := by simp only [GCoreState.enc, List.nil_append, List.append_assoc, List.append_nil]
  rw [e1, e2]; exact h
@[go_sem ↓ high] theorem xd_GCoreState (ρ : Operand → Value) (dst : Option Tmp) (ps : Array (Nat × Operand)) (ty : TypeId) (pos : String) (after : Array Edge) (guard : Option (Nat × Bool)) : execOp ρ { dst, op := .build 83 ps, type := ty, pos, after, guard } = (do pure (.value (← gBuild 83 (ps.map fun (i, x) => (i, ρ x))))) := ex_build ..
@[go_sem ↓ high] theorem bd83_0 (w : World) (v2 : Int) (v3 : Int) : (gBuild 83 #[(2, (.int .i64 v2)), (3, (.int .i64 v3))]).run Tryz.prog w = .ok (GCoreState.val ⟨0, 0, v2, v3, default, default, false, default⟩) w := by
  rw [GCoreState.val_eq]
  refine run_gBuild_of uu83 zr83 pl83 ?_ w
  show Instr.fill _ (GCoreState.enc default).toArray [(2, (.int .i64 v2)), (3, (.int .i64 v3))] = _
  rw [fs83_2, fs83_3]; rfl
theorem eq_GCoreState (w : World) (d : Nat) (x y : GCoreState) : (Op.equalIn (d + 3) 83 (GCoreState.val x) (GCoreState.val y)).run Tryz.prog w = .ok (decide (x = y)) w := by
  have q0 : ∀ a b, (Op.equalIn (d + 2) 3 (.int .i64 a) (.int .i64 b)).run Tryz.prog w = .ok (decide (a = b)) w := fun a b => by rw [run_equalIn_int w (d + 1) 3 .i64 .i64 a b uk3]; congr 1
  have q1 : ∀ a b, (Op.equalIn (d + 2) 3 (.int .i64 a) (.int .i64 b)).run Tryz.prog w = .ok (decide (a = b)) w := fun a b => by rw [run_equalIn_int w (d + 1) 3 .i64 .i64 a b uk3]; congr 1
  have q2 : ∀ a b, (Op.equalIn (d + 2) 3 (.int .i64 a) (.int .i64 b)).run Tryz.prog w = .ok (decide (a = b)) w := fun a b => by rw [run_equalIn_int w (d + 1) 3 .i64 .i64 a b uk3]; congr 1
  have q3 : ∀ a b, (Op.equalIn (d + 2) 3 (.int .i64 a) (.int .i64 b)).run Tryz.prog w = .ok (decide (a = b)) w := fun a b => by rw [run_equalIn_int w (d + 1) 3 .i64 .i64 a b uk3]; congr 1
  have q4 : (Op.equalIn (d + 2) 37 x.locked.val y.locked.val).run Tryz.prog w = .ok (decide (x.locked = y.locked)) w := eq_GHash w (d + 0) _ _
  have q5 : (Op.equalIn (d + 2) 37 x.valid.val y.valid.val).run Tryz.prog w = .ok (decide (x.valid = y.valid)) w := eq_GHash w (d + 0) _ _
  have q6 : ∀ a b, (Op.equalIn (d + 2) 4 (.bool a) (.bool b)).run Tryz.prog w = .ok (decide (a = b)) w := fun a b => by rw [run_equalIn_bool' w (d + 1) 4 a b uk4]; cases a <;> cases b <;> rfl
  have q7 : (Op.equalIn (d + 2) 37 x.decision.val y.decision.val).run Tryz.prog w = .ok (decide (x.decision = y.decision)) w := eq_GHash w (d + 0) _ _
  have h := run_equalIn_fields (d + 2) x.enc.toArray y.enc.toArray w uu83 st83 nb83
  rw [fl83] at h
  unfold GCoreState.val
  refine h.trans ?_
  clear h
  simp only [eqFs, Sem.run_bind, pt83_0, pt83_1, pt83_2, pt83_3, pt83_4, pt83_5, pt83_6, pt83_7, q0, q1, q2, q3, q4, q5, q6, q7, Result.andThen_ok, Sem.run_ite, Sem.run_pure]
  have he : decide (x = y) = (decide (x.round = y.round) && (decide (x.step = y.step) && (decide (x.lockedRound = y.lockedRound) && (decide (x.validRound = y.validRound) && (decide (x.locked = y.locked) && (decide (x.valid = y.valid) && (decide (x.decided = y.decided) && (decide (x.decision = y.decision))))))))) := by
    rw [Bool.eq_iff_iff]; simp only [Bool.and_eq_true, decide_eq_true_eq]; exact GCoreState.ext_all x y
  rw [he]
  generalize decide (x.round = y.round) = c0; generalize decide (x.step = y.step) = c1; generalize decide (x.lockedRound = y.lockedRound) = c2; generalize decide (x.validRound = y.validRound) = c3; generalize decide (x.locked = y.locked) = c4; generalize decide (x.valid = y.valid) = c5; generalize decide (x.decided = y.decided) = c6; generalize decide (x.decision = y.decision) = c7
  cases c0 <;> cases c1 <;> cases c2 <;> cases c3 <;> cases c4 <;> cases c5 <;> cases c6 <;> cases c7 <;> simp
@[go_sem ↓ high] theorem xq_GCoreState (ρ : Operand → Value) (dst : Option Tmp) (x y : Operand) (ty yt : TypeId) (pos : String) (after : Array Edge) (guard : Option (Nat × Bool)) : execOp ρ { dst, op := .binOp .eql 83 x y yt, type := ty, pos, after, guard } = (do pure (.value (← gBin .eql 83 x y (ρ x) (ρ y)))) := ex_eql ..
@[go_sem ↓ high] theorem xn_GCoreState (ρ : Operand → Value) (dst : Option Tmp) (x y : Operand) (ty yt : TypeId) (pos : String) (after : Array Edge) (guard : Option (Nat × Bool)) : execOp ρ { dst, op := .binOp .neq 83 x y yt, type := ty, pos, after, guard } = (do pure (.value (← gBin .neq 83 x y (ρ x) (ρ y)))) := ex_neq ..
theorem eg_GCoreState : Tryz.prog.eqGuardType Tryz.prog.depth 83 = false := by kernel_rfl
@[go_sem ↓ high] theorem eql_GCoreState (w : World) (ox oy : Operand) (x y : GCoreState) : (gBin .eql 83 ox oy (GCoreState.val x) (GCoreState.val y)).run Tryz.prog w = .ok (.bool (decide (x = y))) w := by
  have h2 := eq_GCoreState w 9997 x y
  rw [GCoreState.val_eq, GCoreState.val_eq] at h2 ⊢
  have h := run_eqGuard_agg (P := Tryz.prog) w .eql 83 ox oy (Enc.enc x).toArray (Enc.enc y).toArray eg_GCoreState
  unfold gBin
  simp only [Sem.run_bind, h, Result.andThen_ok, run_eql_struct, h2]
@[go_sem ↓ high] theorem neq_GCoreState (w : World) (ox oy : Operand) (x y : GCoreState) : (gBin .neq 83 ox oy (GCoreState.val x) (GCoreState.val y)).run Tryz.prog w = .ok (.bool (!decide (x = y))) w := by
  have h2 := eq_GCoreState w 9997 x y
  rw [GCoreState.val_eq, GCoreState.val_eq] at h2 ⊢
  have h := run_eqGuard_agg (P := Tryz.prog) w .neq 83 ox oy (Enc.enc x).toArray (Enc.enc y).toArray eg_GCoreState
  unfold gBin
  simp only [Sem.run_bind, h, Result.andThen_ok, run_neq_struct, h2]

/-! ### gavel/core.Core -/
structure GCoreCore where
  c : GConf
  epoch : Int
  replica : Int
  s : GCoreState
  t : Option Addr
  proposals : Option Nat
  wasValid : Bool
  setPrevote : Bool
  setPrecommit : Bool
deriving DecidableEq
instance : Inhabited GCoreCore := ⟨⟨default, 0, 0, default, none, none, false, false, false⟩⟩
def GCoreCore.enc (x : GCoreCore) : List Value := x.c.enc ++ ([(.int .i64 x.epoch)] ++ ([(.int .i64 x.replica)] ++ (x.s.enc ++ ([(.pointer x.t)] ++ ([(.map x.proposals)] ++ ([(.bool x.wasValid)] ++ ([(.bool x.setPrevote)] ++ ([(.bool x.setPrecommit)]))))))))
theorem GCoreCore.enc_len (x : GCoreCore) : x.enc.length = 110 := by simp [GCoreCore.enc, GConf.enc_len, GCoreState.enc_len]
theorem GCoreCore.enc_one (x : GCoreCore) : ∀ u ∈ x.enc, u.oneCell' = true := by
  intro u hu
  simp only [GCoreCore.enc, List.mem_append, List.mem_singleton] at hu
  rcases hu with hu | hu | hu | hu | hu | hu | hu | hu | hu
  · exact Enc.one (α := GConf) _ _ hu
  · subst hu; rfl
  · subst hu; rfl
  · exact Enc.one (α := GCoreState) _ _ hu
  · subst hu; rfl
  · subst hu; rfl
  · subst hu; rfl
  · subst hu; rfl
  · subst hu; rfl
theorem GCoreCore.enc_inj (x y : GCoreCore) (h : x.enc = y.enc) : x = y := by
  obtain ⟨a0, a1, a2, a3, a4, a5, a6, a7, a8⟩ := x
  obtain ⟨b0, b1, b2, b3, b4, b5, b6, b7, b8⟩ := y
  simp only [GCoreCore.enc] at h
  obtain ⟨p0, q0⟩ := List.append_inj h (by simp [GConf.enc_len])
  have e0 := Enc.inj (α := GConf) _ _ p0
  obtain ⟨p1, q1⟩ := List.append_inj q0 (rfl)
  have e1 : a1 = b1 := by have := List.head_eq_of_cons_eq p1; injection this
  obtain ⟨p2, q2⟩ := List.append_inj q1 (rfl)
  have e2 : a2 = b2 := by have := List.head_eq_of_cons_eq p2; injection this
  obtain ⟨p3, q3⟩ := List.append_inj q2 (by simp [GCoreState.enc_len])
  have e3 := Enc.inj (α := GCoreState) _ _ p3
  obtain ⟨p4, q4⟩ := List.append_inj q3 (rfl)
  have e4 : a4 = b4 := by have := List.head_eq_of_cons_eq p4; injection this
  obtain ⟨p5, q5⟩ := List.append_inj q4 (rfl)
  have e5 : a5 = b5 := by have := List.head_eq_of_cons_eq p5; injection this
  obtain ⟨p6, q6⟩ := List.append_inj q5 (rfl)
  have e6 : a6 = b6 := by have := List.head_eq_of_cons_eq p6; injection this
  obtain ⟨p7, q7⟩ := List.append_inj q6 (rfl)
  have e7 : a7 = b7 := by have := List.head_eq_of_cons_eq p7; injection this
  have e8 : a8 = b8 := by have := List.head_eq_of_cons_eq q7; injection this
  rw [e0, e1, e2, e3, e4, e5, e6, e7, e8]
instance : Enc GCoreCore where
  n := 110
  enc := GCoreCore.enc
  pos := by omega
  len := GCoreCore.enc_len
  one := GCoreCore.enc_one
  inj := GCoreCore.enc_inj
@[go_sem] theorem GCoreCore.n_eq : Enc.n GCoreCore = 110 := rfl
@[irreducible] def GCoreCore.val (x : GCoreCore) : Value := .agg x.enc.toArray
theorem GCoreCore.val_eq (x : GCoreCore) : GCoreCore.val x = .agg (Enc.enc x).toArray := by unfold GCoreCore.val; rfl
theorem GCoreCore.ext_all (x y : GCoreCore) : x = y ↔ x.c = y.c ∧ x.epoch = y.epoch ∧ x.replica = y.replica ∧ x.s = y.s ∧ x.t = y.t ∧ x.proposals = y.proposals ∧ x.wasValid = y.wasValid ∧ x.setPrevote = y.setPrevote ∧ x.setPrecommit = y.setPrecommit := by
  constructor
  · intro h; cases h; simp
  · intro h; cases x; cases y; simp_all
theorem uu166 : Tryz.prog.underlying 166 = some (.struct (Tryz.prog.fieldsOf 166)) := by kernel_rfl
theorem st166 : Tryz.prog.stoodInHeld 166 = false := by kernel_rfl
theorem fl166 : fieldTO Tryz.prog 166 = [(23, 0), (3, 2), (3, 3), (83, 4), (163, 105), (164, 106), (4, 107), (4, 108), (4, 109)] := by kernel_rfl
theorem nb166 : noBlank Tryz.prog 166 = true := by kernel_rfl
@[go_sem ↓ high] theorem xl_GCoreCore (ρ : Operand → Value) (dst : Option Tmp) (x : Operand) (ty : TypeId) (pos : String) (after : Array Edge) (guard : Option (Nat × Bool)) : execOp ρ { dst, op := .load 166 x, type := ty, pos, after, guard } = (do pure (.value (← gLoad 166 (ρ x)))) := ex_load ..
@[go_sem ↓ high] theorem xs_GCoreCore (ρ : Operand → Value) (dst : Option Tmp) (x y : Operand) (ty : TypeId) (pos : String) (after : Array Edge) (guard : Option (Nat × Bool)) : execOp ρ { dst, op := .store 166 x y, type := ty, pos, after, guard } = (do gStore 166 (ρ x) (ρ y); pure .skip) := ex_store ..
@[go_sem ↓ high] theorem xb_GCoreCore (ρ : Operand → Value) (dst : Option Tmp) (x : Operand) (ty : TypeId) (pos : String) (after : Array Edge) (guard : Option (Nat × Bool)) : execOp ρ { dst, op := .box 166 x, type := ty, pos, after, guard } = (do pure (.value (← gBox 166 (ρ x)))) := ex_box ..
@[go_sem ↓ high] theorem xa_GCoreCore (ρ : Operand → Value) (dst : Option Tmp) (ty : TypeId) (pos : String) (after : Array Edge) (guard : Option (Nat × Bool)) : execOp ρ { dst, op := .alloc 166, type := ty, pos, after, guard } = (do pure (.value (← gAlloc 166))) := ex_alloc ..
theorem ag166 : aggT Tryz.prog 166 = true := by kernel_rfl
theorem sz166 : sizeT Tryz.prog 166 = 110 := by kernel_rfl
section
variable (w : World)
@[go_sem ↓ high] theorem ld_GCoreCore (a : Addr) : (gLoad 166 (.pointer (some a))).run Tryz.prog w = ofOpt ((get? GCoreCore w a).map GCoreCore.val) w (noLoad Tryz.prog 166 a w) := by
  unfold gLoad; exact run_loadAt_opt ag166 sz166 GCoreCore.val GCoreCore.val_eq
@[go_sem ↓ high] theorem st_GCoreCore (a : Addr) (x : GCoreCore) : (gStore 166 (.pointer (some a)) (GCoreCore.val x)).run Tryz.prog w = okU' ((get? GCoreCore w a).isSome && blkFree w a.block) (World.putCells w a (GCoreCore.enc x)) (noStore Tryz.prog 166 (.pointer (some a)) (GCoreCore.val x) w) := run_gStore_any sz166 GCoreCore.val GCoreCore.val_eq w a x
@[go_sem ↓ high] theorem bx_GCoreCore (x : GCoreCore) : (gBox 166 (GCoreCore.val x)).run Tryz.prog w = .ok (.pointer (some ⟨w.heap.size, 0, none⟩)) (w.alloc (.cells (GCoreCore.enc x).toArray 166)) := by
  rw [GCoreCore.val_eq]; exact run_gBox _ w
end
theorem ds166_0 (x : GCoreCore) : (x.enc.drop 0).take 2 = x.c.enc := by
  unfold GCoreCore.enc
  simp only [List.drop_zero] <;> (rw [List.take_append_of_le_length (by simp [GConf.enc_len])]; exact List.take_of_length_le (by simp [GConf.enc_len]))
theorem pt166_0 (w : World) (x : GCoreCore) : (part 23 x.enc.toArray 0).run Tryz.prog w = .ok (x.c.val) w := by
  have h := run_part_agg (P := Tryz.prog) (w := w) (cs := x.enc) (ds := x.c.enc) (off := 0) ag23 (by rw [GConf.enc_len]; exact sz23) (by simp [GConf.enc_len]) (by rw [GConf.enc_len]; exact ds166_0 x)
  rw [h, GConf.val_eq]; rfl
@[go_sem ↓ high] theorem fd166_0 (w : World) (x : GCoreCore) : (gField 166 (GCoreCore.val x) 0).run Tryz.prog w = .ok (x.c.val) w := by
  rw [GCoreCore.val_eq]
  exact run_gField w uu166 (by rw [fl166]; rfl) (pt166_0 w x)
theorem lk166_1 (x : GCoreCore) : x.enc[2]? = some (.int .i64 x.epoch) := by
  simp [GCoreCore.enc, List.getElem?_append, GConf.enc_len]
theorem pt166_1 (w : World) (x : GCoreCore) : (part 3 x.enc.toArray 2).run Tryz.prog w = .ok (.int .i64 x.epoch) w := run_part_one na3 us3 (lk166_1 x)
@[go_sem ↓ high] theorem fd166_1 (w : World) (x : GCoreCore) : (gField 166 (GCoreCore.val x) 1).run Tryz.prog w = .ok (.int .i64 x.epoch) w := by
  rw [GCoreCore.val_eq]
  exact run_gField w uu166 (by rw [fl166]; rfl) (pt166_1 w x)
theorem lk166_2 (x : GCoreCore) : x.enc[3]? = some (.int .i64 x.replica) := by
  simp [GCoreCore.enc, List.getElem?_append, GConf.enc_len]
theorem pt166_2 (w : World) (x : GCoreCore) : (part 3 x.enc.toArray 3).run Tryz.prog w = .ok (.int .i64 x.replica) w := run_part_one na3 us3 (lk166_2 x)
@[go_sem ↓ high] theorem fd166_2 (w : World) (x : GCoreCore) : (gField 166 (GCoreCore.val x) 2).run Tryz.prog w = .ok (.int .i64 x.replica) w := by
  rw [GCoreCore.val_eq]
  exact run_gField w uu166 (by rw [fl166]; rfl) (pt166_2 w x)
theorem ds166_3 (x : GCoreCore) : (x.enc.drop 4).take 101 = x.s.enc := by
  unfold GCoreCore.enc
  simp [List.drop_append, List.drop_eq_nil_of_le, GConf.enc_len] <;> (rw [List.take_append_of_le_length (by simp [GCoreState.enc_len])]; exact List.take_of_length_le (by simp [GCoreState.enc_len]))
theorem pt166_3 (w : World) (x : GCoreCore) : (part 83 x.enc.toArray 4).run Tryz.prog w = .ok (x.s.val) w := by
  have h := run_part_agg (P := Tryz.prog) (w := w) (cs := x.enc) (ds := x.s.enc) (off := 4) ag83 (by rw [GCoreState.enc_len]; exact sz83) (by simp [GCoreState.enc_len]) (by rw [GCoreState.enc_len]; exact ds166_3 x)
  rw [h, GCoreState.val_eq]; rfl
@[go_sem ↓ high] theorem fd166_3 (w : World) (x : GCoreCore) : (gField 166 (GCoreCore.val x) 3).run Tryz.prog w = .ok (x.s.val) w := by
  rw [GCoreCore.val_eq]
  exact run_gField w uu166 (by rw [fl166]; rfl) (pt166_3 w x)
theorem lk166_4 (x : GCoreCore) : x.enc[105]? = some (.pointer x.t) := by
  simp [GCoreCore.enc, List.getElem?_append, GConf.enc_len, GCoreState.enc_len]
theorem pt166_4 (w : World) (x : GCoreCore) : (part 163 x.enc.toArray 105).run Tryz.prog w = .ok (.pointer x.t) w := run_part_one na163 us163 (lk166_4 x)
@[go_sem ↓ high] theorem fd166_4 (w : World) (x : GCoreCore) : (gField 166 (GCoreCore.val x) 4).run Tryz.prog w = .ok (.pointer x.t) w := by
  rw [GCoreCore.val_eq]
  exact run_gField w uu166 (by rw [fl166]; rfl) (pt166_4 w x)
theorem lk166_5 (x : GCoreCore) : x.enc[106]? = some (.map x.proposals) := by
  simp [GCoreCore.enc, List.getElem?_append, GConf.enc_len, GCoreState.enc_len]
theorem pt166_5 (w : World) (x : GCoreCore) : (part 164 x.enc.toArray 106).run Tryz.prog w = .ok (.map x.proposals) w := run_part_one na164 us164 (lk166_5 x)
@[go_sem ↓ high] theorem fd166_5 (w : World) (x : GCoreCore) : (gField 166 (GCoreCore.val x) 5).run Tryz.prog w = .ok (.map x.proposals) w := by
  rw [GCoreCore.val_eq]
  exact run_gField w uu166 (by rw [fl166]; rfl) (pt166_5 w x)
theorem lk166_6 (x : GCoreCore) : x.enc[107]? = some (.bool x.wasValid) := by
  simp [GCoreCore.enc, List.getElem?_append, GConf.enc_len, GCoreState.enc_len]
theorem pt166_6 (w : World) (x : GCoreCore) : (part 4 x.enc.toArray 107).run Tryz.prog w = .ok (.bool x.wasValid) w := run_part_one na4 us4 (lk166_6 x)
@[go_sem ↓ high] theorem fd166_6 (w : World) (x : GCoreCore) : (gField 166 (GCoreCore.val x) 6).run Tryz.prog w = .ok (.bool x.wasValid) w := by
  rw [GCoreCore.val_eq]
  exact run_gField w uu166 (by rw [fl166]; rfl) (pt166_6 w x)
theorem lk166_7 (x : GCoreCore) : x.enc[108]? = some (.bool x.setPrevote) := by
  simp [GCoreCore.enc, List.getElem?_append, GConf.enc_len, GCoreState.enc_len]
theorem pt166_7 (w : World) (x : GCoreCore) : (part 4 x.enc.toArray 108).run Tryz.prog w = .ok (.bool x.setPrevote) w := run_part_one na4 us4 (lk166_7 x)
@[go_sem ↓ high] theorem fd166_7 (w : World) (x : GCoreCore) : (gField 166 (GCoreCore.val x) 7).run Tryz.prog w = .ok (.bool x.setPrevote) w := by
  rw [GCoreCore.val_eq]
  exact run_gField w uu166 (by rw [fl166]; rfl) (pt166_7 w x)
theorem lk166_8 (x : GCoreCore) : x.enc[109]? = some (.bool x.setPrecommit) := by
  simp [GCoreCore.enc, List.getElem?_append, GConf.enc_len, GCoreState.enc_len]
theorem pt166_8 (w : World) (x : GCoreCore) : (part 4 x.enc.toArray 109).run Tryz.prog w = .ok (.bool x.setPrecommit) w := run_part_one na4 us4 (lk166_8 x)
@[go_sem ↓ high] theorem fd166_8 (w : World) (x : GCoreCore) : (gField 166 (GCoreCore.val x) 8).run Tryz.prog w = .ok (.bool x.setPrecommit) w := by
  rw [GCoreCore.val_eq]
  exact run_gField w uu166 (by rw [fl166]; rfl) (pt166_8 w x)
@[go_sem ↓ high] theorem xf_GCoreCore (ρ : Operand → Value) (dst : Option Tmp) (x : Operand) (i : Nat) (ty : TypeId) (pos : String) (after : Array Edge) (guard : Option (Nat × Bool)) : execOp ρ { dst, op := .field 166 x i, type := ty, pos, after, guard } = (do pure (.value (← gField 166 (ρ x) i))) := ex_field ..
theorem zr166 : zeroT Tryz.prog 166 = some (.agg (GCoreCore.enc default).toArray) := by kernel_rfl
@[go_sem ↓ high] theorem al_GCoreCore (w : World) : (gAlloc 166).run Tryz.prog w = .ok (.pointer (some ⟨w.heap.size, 0, none⟩)) (w.alloc (.cells (GCoreCore.enc default).toArray 166)) := run_zero_alloc zr166 w
@[go_sem] theorem pc_GCoreCore (w : World) (n : Nat) (x z : GCoreCore) (hn : n = w.heap.size) : World.putCells (w.alloc (.cells (GCoreCore.enc z).toArray 166)) ⟨n, 0, none⟩ (GCoreCore.enc x) = w.alloc (.cells (GCoreCore.enc x).toArray 166) := putCells_top x z hn
theorem GCoreCore.at_c {w : World} {a : Addr} {x : GCoreCore} (h : get? GCoreCore w a = some x) : get? GConf w (a.add 0) = some x.c := by
  rw [get?_iff] at h ⊢
  refine h.sub 0 fun j v hv => ?_
  have hd := ds166_0 x
  have hj : j < 2 := by have := (List.getElem?_eq_some_iff.1 hv).1; rwa [Enc.len] at this
  show x.enc[0 + j]? = some v
  rw [← List.getElem?_drop, ← List.getElem?_take_of_lt hj, hd]; exact hv
theorem GCoreCore.at_epoch {w : World} {a : Addr} {x : GCoreCore} (h : get? GCoreCore w a = some x) : w.cell? (a.add 2) = some (.int .i64 x.epoch) := (get?_iff.1 h) _ _ (lk166_1 x)
theorem GCoreCore.at_replica {w : World} {a : Addr} {x : GCoreCore} (h : get? GCoreCore w a = some x) : w.cell? (a.add 3) = some (.int .i64 x.replica) := (get?_iff.1 h) _ _ (lk166_2 x)
theorem GCoreCore.at_s {w : World} {a : Addr} {x : GCoreCore} (h : get? GCoreCore w a = some x) : get? GCoreState w (a.add 4) = some x.s := by
  rw [get?_iff] at h ⊢
  refine h.sub 4 fun j v hv => ?_
  have hd := ds166_3 x
  have hj : j < 101 := by have := (List.getElem?_eq_some_iff.1 hv).1; rwa [Enc.len] at this
  show x.enc[4 + j]? = some v
  rw [← List.getElem?_drop, ← List.getElem?_take_of_lt hj, hd]; exact hv
theorem GCoreCore.at_t {w : World} {a : Addr} {x : GCoreCore} (h : get? GCoreCore w a = some x) : w.cell? (a.add 105) = some (.pointer x.t) := (get?_iff.1 h) _ _ (lk166_4 x)
theorem GCoreCore.at_proposals {w : World} {a : Addr} {x : GCoreCore} (h : get? GCoreCore w a = some x) : w.cell? (a.add 106) = some (.map x.proposals) := (get?_iff.1 h) _ _ (lk166_5 x)
theorem GCoreCore.at_wasValid {w : World} {a : Addr} {x : GCoreCore} (h : get? GCoreCore w a = some x) : w.cell? (a.add 107) = some (.bool x.wasValid) := (get?_iff.1 h) _ _ (lk166_6 x)
theorem GCoreCore.at_setPrevote {w : World} {a : Addr} {x : GCoreCore} (h : get? GCoreCore w a = some x) : w.cell? (a.add 108) = some (.bool x.setPrevote) := (get?_iff.1 h) _ _ (lk166_7 x)
theorem GCoreCore.at_setPrecommit {w : World} {a : Addr} {x : GCoreCore} (h : get? GCoreCore w a = some x) : w.cell? (a.add 109) = some (.bool x.setPrecommit) := (get?_iff.1 h) _ _ (lk166_8 x)
@[go_sem] theorem nw166_0_GConf (w : World) (n : Nat) (x : GCoreCore) (hn : n = w.heap.size) : get? GConf (w.alloc (.cells (GCoreCore.enc x).toArray 166)) ⟨n, 0, none⟩ = some x.c := by
  subst hn
  have h := (GCoreCore.at_c (get?_new (w := w) 166 x))
  simp only [Addr.add_lit, Nat.zero_add, Nat.reduceAdd] at h
  exact h
@[go_sem] theorem nl166_0 (x : GCoreCore) : x.enc[0]? = some (.int .i64 x.c.f) := by
  have h := (GConf.at_f (GCoreCore.at_c (get?_new (w := (default : World)) 166 x)))
  simp only [Addr.add_lit, Nat.zero_add, Nat.reduceAdd, World.cell?_alloc_new, List.getElem?_toArray] at h
  exact h
@[go_sem] theorem nl166_2 (x : GCoreCore) : x.enc[2]? = some (.int .i64 x.epoch) := by
  have h := (GCoreCore.at_epoch (get?_new (w := (default : World)) 166 x))
  simp only [Addr.add_lit, Nat.zero_add, Nat.reduceAdd, World.cell?_alloc_new, List.getElem?_toArray] at h
  exact h
@[go_sem] theorem nl166_3 (x : GCoreCore) : x.enc[3]? = some (.int .i64 x.replica) := by
  have h := (GCoreCore.at_replica (get?_new (w := (default : World)) 166 x))
  simp only [Addr.add_lit, Nat.zero_add, Nat.reduceAdd, World.cell?_alloc_new, List.getElem?_toArray] at h
  exact h
@[go_sem] theorem nw166_4_GCoreState (w : World) (n : Nat) (x : GCoreCore) (hn : n = w.heap.size) : get? GCoreState (w.alloc (.cells (GCoreCore.enc x).toArray 166)) ⟨n, 4, none⟩ = some x.s := by
  subst hn
  have h := (GCoreCore.at_s (get?_new (w := w) 166 x))
  simp only [Addr.add_lit, Nat.zero_add, Nat.reduceAdd] at h
  exact h
@[go_sem] theorem nl166_4 (x : GCoreCore) : x.enc[4]? = some (.int .i64 x.s.round) := by
  have h := (GCoreState.at_round (GCoreCore.at_s (get?_new (w := (default : World)) 166 x)))
  simp only [Addr.add_lit, Nat.zero_add, Nat.reduceAdd, World.cell?_alloc_new, List.getElem?_toArray] at h
  exact h
@[go_sem] theorem nl166_5 (x : GCoreCore) : x.enc[5]? = some (.int .i64 x.s.step) := by
  have h := (GCoreState.at_step (GCoreCore.at_s (get?_new (w := (default : World)) 166 x)))
  simp only [Addr.add_lit, Nat.zero_add, Nat.reduceAdd, World.cell?_alloc_new, List.getElem?_toArray] at h
  exact h
@[go_sem] theorem nl166_6 (x : GCoreCore) : x.enc[6]? = some (.int .i64 x.s.lockedRound) := by
  have h := (GCoreState.at_lockedRound (GCoreCore.at_s (get?_new (w := (default : World)) 166 x)))
  simp only [Addr.add_lit, Nat.zero_add, Nat.reduceAdd, World.cell?_alloc_new, List.getElem?_toArray] at h
  exact h
@[go_sem] theorem nl166_7 (x : GCoreCore) : x.enc[7]? = some (.int .i64 x.s.validRound) := by
  have h := (GCoreState.at_validRound (GCoreCore.at_s (get?_new (w := (default : World)) 166 x)))
  simp only [Addr.add_lit, Nat.zero_add, Nat.reduceAdd, World.cell?_alloc_new, List.getElem?_toArray] at h
  exact h
@[go_sem] theorem nw166_8_GHash (w : World) (n : Nat) (x : GCoreCore) (hn : n = w.heap.size) : get? GHash (w.alloc (.cells (GCoreCore.enc x).toArray 166)) ⟨n, 8, none⟩ = some x.s.locked := by
  subst hn
  have h := (GCoreState.at_locked (GCoreCore.at_s (get?_new (w := w) 166 x)))
  simp only [Addr.add_lit, Nat.zero_add, Nat.reduceAdd] at h
  exact h
@[go_sem] theorem nw166_40_GHash (w : World) (n : Nat) (x : GCoreCore) (hn : n = w.heap.size) : get? GHash (w.alloc (.cells (GCoreCore.enc x).toArray 166)) ⟨n, 40, none⟩ = some x.s.valid := by
  subst hn
  have h := (GCoreState.at_valid (GCoreCore.at_s (get?_new (w := w) 166 x)))
  simp only [Addr.add_lit, Nat.zero_add, Nat.reduceAdd] at h
  exact h
@[go_sem] theorem nl166_72 (x : GCoreCore) : x.enc[72]? = some (.bool x.s.decided) := by
  have h := (GCoreState.at_decided (GCoreCore.at_s (get?_new (w := (default : World)) 166 x)))
  simp only [Addr.add_lit, Nat.zero_add, Nat.reduceAdd, World.cell?_alloc_new, List.getElem?_toArray] at h
  exact h
@[go_sem] theorem nw166_73_GHash (w : World) (n : Nat) (x : GCoreCore) (hn : n = w.heap.size) : get? GHash (w.alloc (.cells (GCoreCore.enc x).toArray 166)) ⟨n, 73, none⟩ = some x.s.decision := by
  subst hn
  have h := (GCoreState.at_decision (GCoreCore.at_s (get?_new (w := w) 166 x)))
  simp only [Addr.add_lit, Nat.zero_add, Nat.reduceAdd] at h
  exact h
@[go_sem] theorem nl166_105 (x : GCoreCore) : x.enc[105]? = some (.pointer x.t) := by
  have h := (GCoreCore.at_t (get?_new (w := (default : World)) 166 x))
  simp only [Addr.add_lit, Nat.zero_add, Nat.reduceAdd, World.cell?_alloc_new, List.getElem?_toArray] at h
  exact h
@[go_sem] theorem nl166_106 (x : GCoreCore) : x.enc[106]? = some (.map x.proposals) := by
  have h := (GCoreCore.at_proposals (get?_new (w := (default : World)) 166 x))
  simp only [Addr.add_lit, Nat.zero_add, Nat.reduceAdd, World.cell?_alloc_new, List.getElem?_toArray] at h
  exact h
@[go_sem] theorem nl166_107 (x : GCoreCore) : x.enc[107]? = some (.bool x.wasValid) := by
  have h := (GCoreCore.at_wasValid (get?_new (w := (default : World)) 166 x))
  simp only [Addr.add_lit, Nat.zero_add, Nat.reduceAdd, World.cell?_alloc_new, List.getElem?_toArray] at h
  exact h
@[go_sem] theorem nl166_108 (x : GCoreCore) : x.enc[108]? = some (.bool x.setPrevote) := by
  have h := (GCoreCore.at_setPrevote (get?_new (w := (default : World)) 166 x))
  simp only [Addr.add_lit, Nat.zero_add, Nat.reduceAdd, World.cell?_alloc_new, List.getElem?_toArray] at h
  exact h
@[go_sem] theorem nl166_109 (x : GCoreCore) : x.enc[109]? = some (.bool x.setPrecommit) := by
  have h := (GCoreCore.at_setPrecommit (get?_new (w := (default : World)) 166 x))
  simp only [Addr.add_lit, Nat.zero_add, Nat.reduceAdd, World.cell?_alloc_new, List.getElem?_toArray] at h
  exact h
@[go_sem] theorem nw166 (w : World) (n : Nat) (x : GCoreCore) (hn : n = w.heap.size) : get? GCoreCore (w.alloc (.cells (GCoreCore.enc x).toArray 166)) ⟨n, 0, none⟩ = some x := by
  subst hn; exact get?_new 166 x
theorem pl166 : ((Tryz.prog.fieldsOf 166).toList.mapM fun f => (Tryz.prog.info? f.type).map fun i => (f.offset, i.size)) = some [(0, 2), (2, 1), (3, 1), (4, 101), (105, 1), (106, 1), (107, 1), (108, 1), (109, 1)] := by kernel_rfl
theorem fs166_0 (x : GCoreCore) (v : GConf) (rest : List (Nat × Value)) : Instr.fill (fun i => ([(0, 2), (2, 1), (3, 1), (4, 101), (105, 1), (106, 1), (107, 1), (108, 1), (109, 1)] : List (Nat × Nat))[i]?) x.enc.toArray ((0, (v.val)) :: rest) = Instr.fill (fun i => ([(0, 2), (2, 1), (3, 1), (4, 101), (105, 1), (106, 1), (107, 1), (108, 1), (109, 1)] : List (Nat × Nat))[i]?) ({ x with c := v } : GCoreCore).enc.toArray rest := by
  have h := fill_seg [(0, 2), (2, 1), (3, 1), (4, 101), (105, 1), (106, 1), (107, 1), (108, 1), (109, 1)] 0 0 2 rfl (([] : List Value)) (x.c.enc) ([(.int .i64 x.epoch)] ++ ([(.int .i64 x.replica)] ++ (x.s.enc ++ ([(.pointer x.t)] ++ ([(.map x.proposals)] ++ ([(.bool x.wasValid)] ++ ([(.bool x.setPrevote)] ++ ([(.bool x.setPrecommit)] ++ (([] : List Value)))))))))) (v.enc) (v.val) rest (by rw [GConf.val_eq]; rfl) (by simp [GConf.enc_len, GCoreState.enc_len]) (by simp [GConf.enc_len, GCoreState.enc_len]) (by simp [GConf.enc_len, GCoreState.enc_len])
  have e1 : x.enc = (([] : List Value)) ++ (x.c.enc ++ ([(.int .i64 x.epoch)] ++ ([(.int .i64 x.replica)] ++ (x.s.enc ++ ([(.pointer x.t)] ++ ([(.map x.proposals)] ++ ([(.bool x.wasValid)] ++ ([(.bool x.setPrevote)] ++ ([(.bool x.setPrecommit)] ++ (([] : List Value))))))))))) := by simp only [GCoreCore.enc, List.nil_append, List.append_assoc, List.append_nil]
  have e2 : ({ x with c := v } : GCoreCore).enc = (([] : List Value)) ++ (v.enc ++ ([(.int .i64 x.epoch)] ++ ([(.int .i64 x.replica)] ++ (x.s.enc ++ ([(.pointer x.t)] ++ ([(.map x.proposals)] ++ ([(.bool x.wasValid)] ++ ([(.bool x.setPrevote)] ++ ([(.bool x.setPrecommit)] ++ (([] : List Value))))))))))) := by simp only [GCoreCore.enc, List.nil_append, List.append_assoc, List.append_nil]
  rw [e1, e2]; exact h
theorem fs166_1 (x : GCoreCore) (v : Int) (rest : List (Nat × Value)) : Instr.fill (fun i => ([(0, 2), (2, 1), (3, 1), (4, 101), (105, 1), (106, 1), (107, 1), (108, 1), (109, 1)] : List (Nat × Nat))[i]?) x.enc.toArray ((1, (.int .i64 v)) :: rest) = Instr.fill (fun i => ([(0, 2), (2, 1), (3, 1), (4, 101), (105, 1), (106, 1), (107, 1), (108, 1), (109, 1)] : List (Nat × Nat))[i]?) ({ x with epoch := v } : GCoreCore).enc.toArray rest := by
  have h := fill_seg [(0, 2), (2, 1), (3, 1), (4, 101), (105, 1), (106, 1), (107, 1), (108, 1), (109, 1)] 1 2 1 rfl (([] : List Value) ++ (x.c.enc)) ([(.int .i64 x.epoch)]) ([(.int .i64 x.replica)] ++ (x.s.enc ++ ([(.pointer x.t)] ++ ([(.map x.proposals)] ++ ([(.bool x.wasValid)] ++ ([(.bool x.setPrevote)] ++ ([(.bool x.setPrecommit)] ++ (([] : List Value))))))))) ([(.int .i64 v)]) (.int .i64 v) rest (rfl) (by simp [GConf.enc_len, GCoreState.enc_len]) (by simp [GConf.enc_len, GCoreState.enc_len]) (by simp [GConf.enc_len, GCoreState.enc_len])
  have e1 : x.enc = (([] : List Value) ++ (x.c.enc)) ++ ([(.int .i64 x.epoch)] ++ ([(.int .i64 x.replica)] ++ (x.s.enc ++ ([(.pointer x.t)] ++ ([(.map x.proposals)] ++ ([(.bool x.wasValid)] ++ ([(.bool x.setPrevote)] ++ ([(.bool x.setPrecommit)] ++ (([] : List Value)))))))))) := by simp only [GCoreCore.enc, List.nil_append, List.append_assoc, List.append_nil]
  have e2 : ({ x with epoch := v } : GCoreCore).enc = (([] : List Value) ++ (x.c.enc)) ++ ([(.int .i64 v)] ++ ([(.int .i64 x.replica)] ++ (x.s.enc ++ ([(.pointer x.t)] ++ ([(.map x.proposals)] ++ ([(.bool x.wasValid)] ++ ([(.bool x.setPrevote)] ++ ([(.bool x.setPrecommit)] ++ (([] : List Value)))))))))) := by simp only [GCoreCore.enc, List.nil_append, List.append_assoc, List.append_nil]
  rw [e1, e2]; exact h
theorem fs166_2 (x : GCoreCore) (v : Int) (rest : List (Nat × Value)) : Instr.fill (fun i => ([(0, 2), (2, 1), (3, 1), (4, 101), (105, 1), (106, 1), (107, 1), (108, 1), (109, 1)] : List (Nat × Nat))[i]?) x.enc.toArray ((2, (.int .i64 v)) :: rest) = Instr.fill (fun i => ([(0, 2), (2, 1), (3, 1), (4, 101), (105, 1), (106, 1), (107, 1), (108, 1), (109, 1)] : List (Nat × Nat))[i]?) ({ x with replica := v } : GCoreCore).enc.toArray rest := by
  have h := fill_seg [(0, 2), (2, 1), (3, 1), (4, 101), (105, 1), (106, 1), (107, 1), (108, 1), (109, 1)] 2 3 1 rfl (([] : List Value) ++ (x.c.enc ++ ([(.int .i64 x.epoch)]))) ([(.int .i64 x.replica)]) (x.s.enc ++ ([(.pointer x.t)] ++ ([(.map x.proposals)] ++ ([(.bool x.wasValid)] ++ ([(.bool x.setPrevote)] ++ ([(.bool x.setPrecommit)] ++ (([] : List Value)))))))) ([(.int .i64 v)]) (.int .i64 v) rest (rfl) (by simp [GConf.enc_len, GCoreState.enc_len]) (by simp [GConf.enc_len, GCoreState.enc_len]) (by simp [GConf.enc_len, GCoreState.enc_len])
  have e1 : x.enc = (([] : List Value) ++ (x.c.enc ++ ([(.int .i64 x.epoch)]))) ++ ([(.int .i64 x.replica)] ++ (x.s.enc ++ ([(.pointer x.t)] ++ ([(.map x.proposals)] ++ ([(.bool x.wasValid)] ++ ([(.bool x.setPrevote)] ++ ([(.bool x.setPrecommit)] ++ (([] : List Value))))))))) := by simp only [GCoreCore.enc, List.nil_append, List.append_assoc, List.append_nil]
  have e2 : ({ x with replica := v } : GCoreCore).enc = (([] : List Value) ++ (x.c.enc ++ ([(.int .i64 x.epoch)]))) ++ ([(.int .i64 v)] ++ (x.s.enc ++ ([(.pointer x.t)] ++ ([(.map x.proposals)] ++ ([(.bool x.wasValid)] ++ ([(.bool x.setPrevote)] ++ ([(.bool x.setPrecommit)] ++ (([] : List Value))))))))) := by simp only [GCoreCore.enc, List.nil_append, List.append_assoc, List.append_nil]
  rw [e1, e2]; exact h
theorem fs166_3 (x : GCoreCore) (v : GCoreState) (rest : List (Nat × Value)) : Instr.fill (fun i => ([(0, 2), (2, 1), (3, 1), (4, 101), (105, 1), (106, 1), (107, 1), (108, 1), (109, 1)] : List (Nat × Nat))[i]?) x.enc.toArray ((3, (v.val)) :: rest) = Instr.fill (fun i => ([(0, 2), (2, 1), (3, 1), (4, 101), (105, 1), (106, 1), (107, 1), (108, 1), (109, 1)] : List (Nat × Nat))[i]?) ({ x with s := v } : GCoreCore).enc.toArray rest := by
  have h := fill_seg [(0, 2), (2, 1), (3, 1), (4, 101), (105, 1), (106, 1), (107, 1), (108, 1), (109, 1)] 3 4 101 rfl (([] : List Value) ++ (x.c.enc ++ ([(.int .i64 x.epoch)] ++ ([(.int .i64 x.replica)])))) (x.s.enc) ([(.pointer x.t)] ++ ([(.map x.proposals)] ++ ([(.bool x.wasValid)] ++ ([(.bool x.setPrevote)] ++ ([(.bool x.setPrecommit)] ++ (([] : List Value))))))) (v.enc) (v.val) rest (by rw [GCoreState.val_eq]; rfl) (by simp [GConf.enc_len, GCoreState.enc_len]) (by simp [GConf.enc_len, GCoreState.enc_len]) (by simp [GConf.enc_len, GCoreState.enc_len])
  have e1 : x.enc = (([] : List Value) ++ (x.c.enc ++ ([(.int .i64 x.epoch)] ++ ([(.int .i64 x.replica)])))) ++ (x.s.enc ++ ([(.pointer x.t)] ++ ([(.map x.proposals)] ++ ([(.bool x.wasValid)] ++ ([(.bool x.setPrevote)] ++ ([(.bool x.setPrecommit)] ++ (([] : List Value)))))))) := by simp only [GCoreCore.enc, List.nil_append, List.append_assoc, List.append_nil]
  have e2 : ({ x with s := v } : GCoreCore).enc = (([] : List Value) ++ (x.c.enc ++ ([(.int .i64 x.epoch)] ++ ([(.int .i64 x.replica)])))) ++ (v.enc ++ ([(.pointer x.t)] ++ ([(.map x.proposals)] ++ ([(.bool x.wasValid)] ++ ([(.bool x.setPrevote)] ++ ([(.bool x.setPrecommit)] ++ (([] : List Value)))))))) := by simp only [GCoreCore.enc, List.nil_append, List.append_assoc, List.append_nil]
  rw [e1, e2]; exact h
theorem fs166_4 (x : GCoreCore) (v : Option Addr) (rest : List (Nat × Value)) : Instr.fill (fun i => ([(0, 2), (2, 1), (3, 1), (4, 101), (105, 1), (106, 1), (107, 1), (108, 1), (109, 1)] : List (Nat × Nat))[i]?) x.enc.toArray ((4, (.pointer v)) :: rest) = Instr.fill (fun i => ([(0, 2), (2, 1), (3, 1), (4, 101), (105, 1), (106, 1), (107, 1), (108, 1), (109, 1)] : List (Nat × Nat))[i]?) ({ x with t := v } : GCoreCore).enc.toArray rest := by
  have h := fill_seg [(0, 2), (2, 1), (3, 1), (4, 101), (105, 1), (106, 1), (107, 1), (108, 1), (109, 1)] 4 105 1 rfl (([] : List Value) ++ (x.c.enc ++ ([(.int .i64 x.epoch)] ++ ([(.int .i64 x.replica)] ++ (x.s.enc))))) ([(.pointer x.t)]) ([(.map x.proposals)] ++ ([(.bool x.wasValid)] ++ ([(.bool x.setPrevote)] ++ ([(.bool x.setPrecommit)] ++ (([] : List Value)))))) ([(.pointer v)]) (.pointer v) rest (rfl) (by simp [GConf.enc_len, GCoreState.enc_len]) (by simp [GConf.enc_len, GCoreState.enc_len]) (by simp [GConf.enc_len, GCoreState.enc_len])
  have e1 : x.enc = (([] : List Value) ++ (x.c.enc ++ ([(.int .i64 x.epoch)] ++ ([(.int .i64 x.replica)] ++ (x.s.enc))))) ++ ([(.pointer x.t)] ++ ([(.map x.proposals)] ++ ([(.bool x.wasValid)] ++ ([(.bool x.setPrevote)] ++ ([(.bool x.setPrecommit)] ++ (([] : List Value))))))) := by simp only [GCoreCore.enc, List.nil_append, List.append_assoc, List.append_nil]
  have e2 : ({ x with t := v } : GCoreCore).enc = (([] : List Value) ++ (x.c.enc ++ ([(.int .i64 x.epoch)] ++ ([(.int .i64 x.replica)] ++ (x.s.enc))))) ++ ([(.pointer v)] ++ ([(.map x.proposals)] ++ ([(.bool x.wasValid)] ++ ([(.bool x.setPrevote)] ++ ([(.bool x.setPrecommit)] ++ (([] : List Value))))))) := by simp only [GCoreCore.enc, List.nil_append, List.append_assoc, List.append_nil]
  rw [e1, e2]; exact h
theorem fs166_5 (x : GCoreCore) (v : Option Nat) (rest : List (Nat × Value)) : Instr.fill (fun i => ([(0, 2), (2, 1), (3, 1), (4, 101), (105, 1), (106, 1), (107, 1), (108, 1), (109, 1)] : List (Nat × Nat))[i]?) x.enc.toArray ((5, (.map v)) :: rest) = Instr.fill (fun i => ([(0, 2), (2, 1), (3, 1), (4, 101), (105, 1), (106, 1), (107, 1), (108, 1), (109, 1)] : List (Nat × Nat))[i]?) ({ x with proposals := v } : GCoreCore).enc.toArray rest := by
  have h := fill_seg [(0, 2), (2, 1), (3, 1), (4, 101), (105, 1), (106, 1), (107, 1), (108, 1), (109, 1)] 5 106 1 rfl (([] : List Value) ++ (x.c.enc ++ ([(.int .i64 x.epoch)] ++ ([(.int .i64 x.replica)] ++ (x.s.enc ++ ([(.pointer x.t)])))))) ([(.map x.proposals)]) ([(.bool x.wasValid)] ++ ([(.bool x.setPrevote)] ++ ([(.bool x.setPrecommit)] ++ (([] : List Value))))) ([(.map v)]) (.map v) rest (rfl) (by simp [GConf.enc_len, GCoreState.enc_len]) (by simp [GConf.enc_len, GCoreState.enc_len]) (by simp [GConf.enc_len, GCoreState.enc_len])
  have e1 : x.enc = (([] : List Value) ++ (x.c.enc ++ ([(.int .i64 x.epoch)] ++ ([(.int .i64 x.replica)] ++ (x.s.enc ++ ([(.pointer x.t)])))))) ++ ([(.map x.proposals)] ++ ([(.bool x.wasValid)] ++ ([(.bool x.setPrevote)] ++ ([(.bool x.setPrecommit)] ++ (([] : List Value)))))) := by simp only [GCoreCore.enc, List.nil_append, List.append_assoc, List.append_nil]
  have e2 : ({ x with proposals := v } : GCoreCore).enc = (([] : List Value) ++ (x.c.enc ++ ([(.int .i64 x.epoch)] ++ ([(.int .i64 x.replica)] ++ (x.s.enc ++ ([(.pointer x.t)])))))) ++ ([(.map v)] ++ ([(.bool x.wasValid)] ++ ([(.bool x.setPrevote)] ++ ([(.bool x.setPrecommit)] ++ (([] : List Value)))))) := by simp only [GCoreCore.enc, List.nil_append, List.append_assoc, List.append_nil]
  rw [e1, e2]; exact h
@[go_sem ↓ high] theorem xd_GCoreCore (ρ : Operand → Value) (dst : Option Tmp) (ps : Array (Nat × Operand)) (ty : TypeId) (pos : String) (after : Array Edge) (guard : Option (Nat × Bool)) : execOp ρ { dst, op := .build 166 ps, type := ty, pos, after, guard } = (do pure (.value (← gBuild 166 (ps.map fun (i, x) => (i, ρ x))))) := ex_build ..
@[go_sem ↓ high] theorem bd166_0 (w : World) (v0 : GConf) (v1 : Int) (v2 : Int) (v3 : GCoreState) (v4 : Option Addr) (v5 : Option Nat) : (gBuild 166 #[(0, (v0.val)), (1, (.int .i64 v1)), (2, (.int .i64 v2)), (3, (v3.val)), (4, (.pointer v4)), (5, (.map v5))]).run Tryz.prog w = .ok (GCoreCore.val ⟨v0, v1, v2, v3, v4, v5, false, false, false⟩) w := by
  rw [GCoreCore.val_eq]
  refine run_gBuild_of uu166 zr166 pl166 ?_ w
  show Instr.fill _ (GCoreCore.enc default).toArray [(0, (v0.val)), (1, (.int .i64 v1)), (2, (.int .i64 v2)), (3, (v3.val)), (4, (.pointer v4)), (5, (.map v5))] = _
  rw [fs166_0, fs166_1, fs166_2, fs166_3, fs166_4, fs166_5]; rfl

/-! ### gavel/core.Act -/
structure GCoreAct where
  kind : Int
  round : Int
  valid : Int
  hash : GHash
deriving DecidableEq
instance : Inhabited GCoreAct := ⟨⟨0, 0, 0, default⟩⟩
def GCoreAct.enc (x : GCoreAct) : List Value := [(.int .i64 x.kind)] ++ ([(.int .i64 x.round)] ++ ([(.int .i64 x.valid)] ++ (x.hash.enc)))
theorem GCoreAct.enc_len (x : GCoreAct) : x.enc.length = 35 := by simp [GCoreAct.enc, GHash.enc_len]
theorem GCoreAct.enc_one (x : GCoreAct) : ∀ u ∈ x.enc, u.oneCell' = true := by
  intro u hu
  simp only [GCoreAct.enc, List.mem_append, List.mem_singleton] at hu
  rcases hu with hu | hu | hu | hu
  · subst hu; rfl
  · subst hu; rfl
  · subst hu; rfl
  · exact Enc.one (α := GHash) _ _ hu
theorem GCoreAct.enc_inj (x y : GCoreAct) (h : x.enc = y.enc) : x = y := by
  obtain ⟨a0, a1, a2, a3⟩ := x
  obtain ⟨b0, b1, b2, b3⟩ := y
  simp only [GCoreAct.enc] at h
  obtain ⟨p0, q0⟩ := List.append_inj h (rfl)
  have e0 : a0 = b0 := by have := List.head_eq_of_cons_eq p0; injection this
  obtain ⟨p1, q1⟩ := List.append_inj q0 (rfl)
  have e1 : a1 = b1 := by have := List.head_eq_of_cons_eq p1; injection this
  obtain ⟨p2, q2⟩ := List.append_inj q1 (rfl)
  have e2 : a2 = b2 := by have := List.head_eq_of_cons_eq p2; injection this
  have e3 := Enc.inj (α := GHash) _ _ q2
  rw [e0, e1, e2, e3]
instance : Enc GCoreAct where
  n := 35
  enc := GCoreAct.enc
  pos := by omega
  len := GCoreAct.enc_len
  one := GCoreAct.enc_one
  inj := GCoreAct.enc_inj
@[go_sem] theorem GCoreAct.n_eq : Enc.n GCoreAct = 35 := rfl
@[irreducible] def GCoreAct.val (x : GCoreAct) : Value := .agg x.enc.toArray
theorem GCoreAct.val_eq (x : GCoreAct) : GCoreAct.val x = .agg (Enc.enc x).toArray := by unfold GCoreAct.val; rfl
theorem GCoreAct.ext_all (x y : GCoreAct) : x = y ↔ x.kind = y.kind ∧ x.round = y.round ∧ x.valid = y.valid ∧ x.hash = y.hash := by
  constructor
  · intro h; cases h; simp
  · intro h; cases x; cases y; simp_all
theorem uu160 : Tryz.prog.underlying 160 = some (.struct (Tryz.prog.fieldsOf 160)) := by kernel_rfl
theorem st160 : Tryz.prog.stoodInHeld 160 = false := by kernel_rfl
theorem fl160 : fieldTO Tryz.prog 160 = [(3, 0), (3, 1), (3, 2), (37, 3)] := by kernel_rfl
theorem nb160 : noBlank Tryz.prog 160 = true := by kernel_rfl
@[go_sem ↓ high] theorem xl_GCoreAct (ρ : Operand → Value) (dst : Option Tmp) (x : Operand) (ty : TypeId) (pos : String) (after : Array Edge) (guard : Option (Nat × Bool)) : execOp ρ { dst, op := .load 160 x, type := ty, pos, after, guard } = (do pure (.value (← gLoad 160 (ρ x)))) := ex_load ..
@[go_sem ↓ high] theorem xs_GCoreAct (ρ : Operand → Value) (dst : Option Tmp) (x y : Operand) (ty : TypeId) (pos : String) (after : Array Edge) (guard : Option (Nat × Bool)) : execOp ρ { dst, op := .store 160 x y, type := ty, pos, after, guard } = (do gStore 160 (ρ x) (ρ y); pure .skip) := ex_store ..
@[go_sem ↓ high] theorem xb_GCoreAct (ρ : Operand → Value) (dst : Option Tmp) (x : Operand) (ty : TypeId) (pos : String) (after : Array Edge) (guard : Option (Nat × Bool)) : execOp ρ { dst, op := .box 160 x, type := ty, pos, after, guard } = (do pure (.value (← gBox 160 (ρ x)))) := ex_box ..
@[go_sem ↓ high] theorem xa_GCoreAct (ρ : Operand → Value) (dst : Option Tmp) (ty : TypeId) (pos : String) (after : Array Edge) (guard : Option (Nat × Bool)) : execOp ρ { dst, op := .alloc 160, type := ty, pos, after, guard } = (do pure (.value (← gAlloc 160))) := ex_alloc ..
theorem ag160 : aggT Tryz.prog 160 = true := by kernel_rfl
theorem sz160 : sizeT Tryz.prog 160 = 35 := by kernel_rfl
section
variable (w : World)
@[go_sem ↓ high] theorem ld_GCoreAct (a : Addr) : (gLoad 160 (.pointer (some a))).run Tryz.prog w = ofOpt ((get? GCoreAct w a).map GCoreAct.val) w (noLoad Tryz.prog 160 a w) := by
  unfold gLoad; exact run_loadAt_opt ag160 sz160 GCoreAct.val GCoreAct.val_eq
@[go_sem ↓ high] theorem st_GCoreAct (a : Addr) (x : GCoreAct) : (gStore 160 (.pointer (some a)) (GCoreAct.val x)).run Tryz.prog w = okU' ((get? GCoreAct w a).isSome && blkFree w a.block) (World.putCells w a (GCoreAct.enc x)) (noStore Tryz.prog 160 (.pointer (some a)) (GCoreAct.val x) w) := run_gStore_any sz160 GCoreAct.val GCoreAct.val_eq w a x
@[go_sem ↓ high] theorem bx_GCoreAct (x : GCoreAct) : (gBox 160 (GCoreAct.val x)).run Tryz.prog w = .ok (.pointer (some ⟨w.heap.size, 0, none⟩)) (w.alloc (.cells (GCoreAct.enc x).toArray 160)) := by
  rw [GCoreAct.val_eq]; exact run_gBox _ w
end
theorem lk160_0 (x : GCoreAct) : x.enc[0]? = some (.int .i64 x.kind) := by
  simp [GCoreAct.enc, List.getElem?_append]
theorem pt160_0 (w : World) (x : GCoreAct) : (part 3 x.enc.toArray 0).run Tryz.prog w = .ok (.int .i64 x.kind) w := run_part_one na3 us3 (lk160_0 x)
@[go_sem ↓ high] theorem fd160_0 (w : World) (x : GCoreAct) : (gField 160 (GCoreAct.val x) 0).run Tryz.prog w = .ok (.int .i64 x.kind) w := by
  rw [GCoreAct.val_eq]
  exact run_gField w uu160 (by rw [fl160]; rfl) (pt160_0 w x)
theorem lk160_1 (x : GCoreAct) : x.enc[1]? = some (.int .i64 x.round) := by
  simp [GCoreAct.enc, List.getElem?_append]
theorem pt160_1 (w : World) (x : GCoreAct) : (part 3 x.enc.toArray 1).run Tryz.prog w = .ok (.int .i64 x.round) w := run_part_one na3 us3 (lk160_1 x)
@[go_sem ↓ high] theorem fd160_1 (w : World) (x : GCoreAct) : (gField 160 (GCoreAct.val x) 1).run Tryz.prog w = .ok (.int .i64 x.round) w := by
  rw [GCoreAct.val_eq]
  exact run_gField w uu160 (by rw [fl160]; rfl) (pt160_1 w x)
theorem lk160_2 (x : GCoreAct) : x.enc[2]? = some (.int .i64 x.valid) := by
  simp [GCoreAct.enc, List.getElem?_append]
theorem pt160_2 (w : World) (x : GCoreAct) : (part 3 x.enc.toArray 2).run Tryz.prog w = .ok (.int .i64 x.valid) w := run_part_one na3 us3 (lk160_2 x)
@[go_sem ↓ high] theorem fd160_2 (w : World) (x : GCoreAct) : (gField 160 (GCoreAct.val x) 2).run Tryz.prog w = .ok (.int .i64 x.valid) w := by
  rw [GCoreAct.val_eq]
  exact run_gField w uu160 (by rw [fl160]; rfl) (pt160_2 w x)
theorem ds160_3 (x : GCoreAct) : (x.enc.drop 3).take 32 = x.hash.enc := by
  unfold GCoreAct.enc
  simp [List.drop_append, List.drop_eq_nil_of_le] <;> (exact List.take_of_length_le (by simp [GHash.enc_len]))
theorem pt160_3 (w : World) (x : GCoreAct) : (part 37 x.enc.toArray 3).run Tryz.prog w = .ok (x.hash.val) w := by
  have h := run_part_agg (P := Tryz.prog) (w := w) (cs := x.enc) (ds := x.hash.enc) (off := 3) ag37 (by rw [GHash.enc_len]; exact sz37) (by simp [GHash.enc_len]) (by rw [GHash.enc_len]; exact ds160_3 x)
  rw [h, GHash.val_eq]; rfl
@[go_sem ↓ high] theorem fd160_3 (w : World) (x : GCoreAct) : (gField 160 (GCoreAct.val x) 3).run Tryz.prog w = .ok (x.hash.val) w := by
  rw [GCoreAct.val_eq]
  exact run_gField w uu160 (by rw [fl160]; rfl) (pt160_3 w x)
@[go_sem ↓ high] theorem xf_GCoreAct (ρ : Operand → Value) (dst : Option Tmp) (x : Operand) (i : Nat) (ty : TypeId) (pos : String) (after : Array Edge) (guard : Option (Nat × Bool)) : execOp ρ { dst, op := .field 160 x i, type := ty, pos, after, guard } = (do pure (.value (← gField 160 (ρ x) i))) := ex_field ..
theorem zr160 : zeroT Tryz.prog 160 = some (.agg (GCoreAct.enc default).toArray) := by kernel_rfl
@[go_sem ↓ high] theorem al_GCoreAct (w : World) : (gAlloc 160).run Tryz.prog w = .ok (.pointer (some ⟨w.heap.size, 0, none⟩)) (w.alloc (.cells (GCoreAct.enc default).toArray 160)) := run_zero_alloc zr160 w
@[go_sem] theorem pc_GCoreAct (w : World) (n : Nat) (x z : GCoreAct) (hn : n = w.heap.size) : World.putCells (w.alloc (.cells (GCoreAct.enc z).toArray 160)) ⟨n, 0, none⟩ (GCoreAct.enc x) = w.alloc (.cells (GCoreAct.enc x).toArray 160) := putCells_top x z hn
theorem GCoreAct.at_kind {w : World} {a : Addr} {x : GCoreAct} (h : get? GCoreAct w a = some x) : w.cell? (a.add 0) = some (.int .i64 x.kind) := (get?_iff.1 h) _ _ (lk160_0 x)
theorem GCoreAct.at_round {w : World} {a : Addr} {x : GCoreAct} (h : get? GCoreAct w a = some x) : w.cell? (a.add 1) = some (.int .i64 x.round) := (get?_iff.1 h) _ _ (lk160_1 x)
theorem GCoreAct.at_valid {w : World} {a : Addr} {x : GCoreAct} (h : get? GCoreAct w a = some x) : w.cell? (a.add 2) = some (.int .i64 x.valid) := (get?_iff.1 h) _ _ (lk160_2 x)
theorem GCoreAct.at_hash {w : World} {a : Addr} {x : GCoreAct} (h : get? GCoreAct w a = some x) : get? GHash w (a.add 3) = some x.hash := by
  rw [get?_iff] at h ⊢
  refine h.sub 3 fun j v hv => ?_
  have hd := ds160_3 x
  have hj : j < 32 := by have := (List.getElem?_eq_some_iff.1 hv).1; rwa [Enc.len] at this
  show x.enc[3 + j]? = some v
  rw [← List.getElem?_drop, ← List.getElem?_take_of_lt hj, hd]; exact hv
@[go_sem] theorem nl160_0 (x : GCoreAct) : x.enc[0]? = some (.int .i64 x.kind) := by
  have h := (GCoreAct.at_kind (get?_new (w := (default : World)) 160 x))
  simp only [Addr.add_lit, Nat.zero_add, Nat.reduceAdd, World.cell?_alloc_new, List.getElem?_toArray] at h
  exact h
@[go_sem] theorem nl160_1 (x : GCoreAct) : x.enc[1]? = some (.int .i64 x.round) := by
  have h := (GCoreAct.at_round (get?_new (w := (default : World)) 160 x))
  simp only [Addr.add_lit, Nat.zero_add, Nat.reduceAdd, World.cell?_alloc_new, List.getElem?_toArray] at h
  exact h
@[go_sem] theorem nl160_2 (x : GCoreAct) : x.enc[2]? = some (.int .i64 x.valid) := by
  have h := (GCoreAct.at_valid (get?_new (w := (default : World)) 160 x))
  simp only [Addr.add_lit, Nat.zero_add, Nat.reduceAdd, World.cell?_alloc_new, List.getElem?_toArray] at h
  exact h
@[go_sem] theorem nw160_3_GHash (w : World) (n : Nat) (x : GCoreAct) (hn : n = w.heap.size) : get? GHash (w.alloc (.cells (GCoreAct.enc x).toArray 160)) ⟨n, 3, none⟩ = some x.hash := by
  subst hn
  have h := (GCoreAct.at_hash (get?_new (w := w) 160 x))
  simp only [Addr.add_lit, Nat.zero_add, Nat.reduceAdd] at h
  exact h
@[go_sem] theorem nw160 (w : World) (n : Nat) (x : GCoreAct) (hn : n = w.heap.size) : get? GCoreAct (w.alloc (.cells (GCoreAct.enc x).toArray 160)) ⟨n, 0, none⟩ = some x := by
  subst hn; exact get?_new 160 x
theorem pl160 : ((Tryz.prog.fieldsOf 160).toList.mapM fun f => (Tryz.prog.info? f.type).map fun i => (f.offset, i.size)) = some [(0, 1), (1, 1), (2, 1), (3, 32)] := by kernel_rfl
theorem fs160_0 (x : GCoreAct) (v : Int) (rest : List (Nat × Value)) : Instr.fill (fun i => ([(0, 1), (1, 1), (2, 1), (3, 32)] : List (Nat × Nat))[i]?) x.enc.toArray ((0, (.int .i64 v)) :: rest) = Instr.fill (fun i => ([(0, 1), (1, 1), (2, 1), (3, 32)] : List (Nat × Nat))[i]?) ({ x with kind := v } : GCoreAct).enc.toArray rest := by
  have h := fill_seg [(0, 1), (1, 1), (2, 1), (3, 32)] 0 0 1 rfl (([] : List Value)) ([(.int .i64 x.kind)]) ([(.int .i64 x.round)] ++ ([(.int .i64 x.valid)] ++ (x.hash.enc ++ (([] : List Value))))) ([(.int .i64 v)]) (.int .i64 v) rest (rfl) (by simp [GHash.enc_len]) (by simp [GHash.enc_len]) (by simp [GHash.enc_len])
  have e1 : x.enc = (([] : List Value)) ++ ([(.int .i64 x.kind)] ++ ([(.int .i64 x.round)] ++ ([(.int .i64 x.valid)] ++ (x.hash.enc ++ (([] : List Value)))))) := by simp only [GCoreAct.enc, List.nil_append, List.append_assoc, List.append_nil]
  have e2 : ({ x with kind := v } : GCoreAct).enc = (([] : List Value)) ++ ([(.int .i64 v)] ++ ([(.int .i64 x.round)] ++ ([(.int .i64 x.valid)] ++ (x.hash.enc ++ (([] : List Value)))))) := by simp only [GCoreAct.enc, List.nil_append, List.append_assoc, List.append_nil]
  rw [e1, e2]; exact h
theorem fs160_1 (x : GCoreAct) (v : Int) (rest : List (Nat × Value)) : Instr.fill (fun i => ([(0, 1), (1, 1), (2, 1), (3, 32)] : List (Nat × Nat))[i]?) x.enc.toArray ((1, (.int .i64 v)) :: rest) = Instr.fill (fun i => ([(0, 1), (1, 1), (2, 1), (3, 32)] : List (Nat × Nat))[i]?) ({ x with round := v } : GCoreAct).enc.toArray rest := by
  have h := fill_seg [(0, 1), (1, 1), (2, 1), (3, 32)] 1 1 1 rfl (([] : List Value) ++ ([(.int .i64 x.kind)])) ([(.int .i64 x.round)]) ([(.int .i64 x.valid)] ++ (x.hash.enc ++ (([] : List Value)))) ([(.int .i64 v)]) (.int .i64 v) rest (rfl) (by simp [GHash.enc_len]) (by simp [GHash.enc_len]) (by simp [GHash.enc_len])
  have e1 : x.enc = (([] : List Value) ++ ([(.int .i64 x.kind)])) ++ ([(.int .i64 x.round)] ++ ([(.int .i64 x.valid)] ++ (x.hash.enc ++ (([] : List Value))))) := by simp only [GCoreAct.enc, List.nil_append, List.append_assoc, List.append_nil]
  have e2 : ({ x with round := v } : GCoreAct).enc = (([] : List Value) ++ ([(.int .i64 x.kind)])) ++ ([(.int .i64 v)] ++ ([(.int .i64 x.valid)] ++ (x.hash.enc ++ (([] : List Value))))) := by simp only [GCoreAct.enc, List.nil_append, List.append_assoc, List.append_nil]
  rw [e1, e2]; exact h
theorem fs160_2 (x : GCoreAct) (v : Int) (rest : List (Nat × Value)) : Instr.fill (fun i => ([(0, 1), (1, 1), (2, 1), (3, 32)] : List (Nat × Nat))[i]?) x.enc.toArray ((2, (.int .i64 v)) :: rest) = Instr.fill (fun i => ([(0, 1), (1, 1), (2, 1), (3, 32)] : List (Nat × Nat))[i]?) ({ x with valid := v } : GCoreAct).enc.toArray rest := by
  have h := fill_seg [(0, 1), (1, 1), (2, 1), (3, 32)] 2 2 1 rfl (([] : List Value) ++ ([(.int .i64 x.kind)] ++ ([(.int .i64 x.round)]))) ([(.int .i64 x.valid)]) (x.hash.enc ++ (([] : List Value))) ([(.int .i64 v)]) (.int .i64 v) rest (rfl) (by simp [GHash.enc_len]) (by simp [GHash.enc_len]) (by simp [GHash.enc_len])
  have e1 : x.enc = (([] : List Value) ++ ([(.int .i64 x.kind)] ++ ([(.int .i64 x.round)]))) ++ ([(.int .i64 x.valid)] ++ (x.hash.enc ++ (([] : List Value)))) := by simp only [GCoreAct.enc, List.nil_append, List.append_assoc, List.append_nil]
  have e2 : ({ x with valid := v } : GCoreAct).enc = (([] : List Value) ++ ([(.int .i64 x.kind)] ++ ([(.int .i64 x.round)]))) ++ ([(.int .i64 v)] ++ (x.hash.enc ++ (([] : List Value)))) := by simp only [GCoreAct.enc, List.nil_append, List.append_assoc, List.append_nil]
  rw [e1, e2]; exact h
theorem fs160_3 (x : GCoreAct) (v : GHash) (rest : List (Nat × Value)) : Instr.fill (fun i => ([(0, 1), (1, 1), (2, 1), (3, 32)] : List (Nat × Nat))[i]?) x.enc.toArray ((3, (v.val)) :: rest) = Instr.fill (fun i => ([(0, 1), (1, 1), (2, 1), (3, 32)] : List (Nat × Nat))[i]?) ({ x with hash := v } : GCoreAct).enc.toArray rest := by
  have h := fill_seg [(0, 1), (1, 1), (2, 1), (3, 32)] 3 3 32 rfl (([] : List Value) ++ ([(.int .i64 x.kind)] ++ ([(.int .i64 x.round)] ++ ([(.int .i64 x.valid)])))) (x.hash.enc) (([] : List Value)) (v.enc) (v.val) rest (by rw [GHash.val_eq]; rfl) (by simp [GHash.enc_len]) (by simp [GHash.enc_len]) (by simp [GHash.enc_len])
  have e1 : x.enc = (([] : List Value) ++ ([(.int .i64 x.kind)] ++ ([(.int .i64 x.round)] ++ ([(.int .i64 x.valid)])))) ++ (x.hash.enc ++ (([] : List Value))) := by simp only [GCoreAct.enc, List.nil_append, List.append_assoc, List.append_nil]
  have e2 : ({ x with hash := v } : GCoreAct).enc = (([] : List Value) ++ ([(.int .i64 x.kind)] ++ ([(.int .i64 x.round)] ++ ([(.int .i64 x.valid)])))) ++ (v.enc ++ (([] : List Value))) := by simp only [GCoreAct.enc, List.nil_append, List.append_assoc, List.append_nil]
  rw [e1, e2]; exact h
@[go_sem ↓ high] theorem xd_GCoreAct (ρ : Operand → Value) (dst : Option Tmp) (ps : Array (Nat × Operand)) (ty : TypeId) (pos : String) (after : Array Edge) (guard : Option (Nat × Bool)) : execOp ρ { dst, op := .build 160 ps, type := ty, pos, after, guard } = (do pure (.value (← gBuild 160 (ps.map fun (i, x) => (i, ρ x))))) := ex_build ..
@[go_sem ↓ high] theorem bd160_0 (w : World) (v0 : Int) (v1 : Int) (v2 : Int) : (gBuild 160 #[(0, (.int .i64 v0)), (1, (.int .i64 v1)), (2, (.int .i64 v2))]).run Tryz.prog w = .ok (GCoreAct.val ⟨v0, v1, v2, default⟩) w := by
  rw [GCoreAct.val_eq]
  refine run_gBuild_of uu160 zr160 pl160 ?_ w
  show Instr.fill _ (GCoreAct.enc default).toArray [(0, (.int .i64 v0)), (1, (.int .i64 v1)), (2, (.int .i64 v2))] = _
  rw [fs160_0, fs160_1, fs160_2]; rfl
@[go_sem ↓ high] theorem bd160_1 (w : World) (v0 : Int) (v1 : Int) (v2 : Int) (v3 : GHash) : (gBuild 160 #[(0, (.int .i64 v0)), (1, (.int .i64 v1)), (2, (.int .i64 v2)), (3, (v3.val))]).run Tryz.prog w = .ok (GCoreAct.val ⟨v0, v1, v2, v3⟩) w := by
  rw [GCoreAct.val_eq]
  refine run_gBuild_of uu160 zr160 pl160 ?_ w
  show Instr.fill _ (GCoreAct.enc default).toArray [(0, (.int .i64 v0)), (1, (.int .i64 v1)), (2, (.int .i64 v2)), (3, (v3.val))] = _
  rw [fs160_0, fs160_1, fs160_2, fs160_3]; rfl
theorem eq_GCoreAct (w : World) (d : Nat) (x y : GCoreAct) : (Op.equalIn (d + 3) 160 (GCoreAct.val x) (GCoreAct.val y)).run Tryz.prog w = .ok (decide (x = y)) w := by
  have q0 : ∀ a b, (Op.equalIn (d + 2) 3 (.int .i64 a) (.int .i64 b)).run Tryz.prog w = .ok (decide (a = b)) w := fun a b => by rw [run_equalIn_int w (d + 1) 3 .i64 .i64 a b uk3]; congr 1
  have q1 : ∀ a b, (Op.equalIn (d + 2) 3 (.int .i64 a) (.int .i64 b)).run Tryz.prog w = .ok (decide (a = b)) w := fun a b => by rw [run_equalIn_int w (d + 1) 3 .i64 .i64 a b uk3]; congr 1
  have q2 : ∀ a b, (Op.equalIn (d + 2) 3 (.int .i64 a) (.int .i64 b)).run Tryz.prog w = .ok (decide (a = b)) w := fun a b => by rw [run_equalIn_int w (d + 1) 3 .i64 .i64 a b uk3]; congr 1
  have q3 : (Op.equalIn (d + 2) 37 x.hash.val y.hash.val).run Tryz.prog w = .ok (decide (x.hash = y.hash)) w := eq_GHash w (d + 0) _ _
  have h := run_equalIn_fields (d + 2) x.enc.toArray y.enc.toArray w uu160 st160 nb160
  rw [fl160] at h
  unfold GCoreAct.val
  refine h.trans ?_
  clear h
  simp only [eqFs, Sem.run_bind, pt160_0, pt160_1, pt160_2, pt160_3, q0, q1, q2, q3, Result.andThen_ok, Sem.run_ite, Sem.run_pure]
  have he : decide (x = y) = (decide (x.kind = y.kind) && (decide (x.round = y.round) && (decide (x.valid = y.valid) && (decide (x.hash = y.hash))))) := by
    rw [Bool.eq_iff_iff]; simp only [Bool.and_eq_true, decide_eq_true_eq]; exact GCoreAct.ext_all x y
  rw [he]
  generalize decide (x.kind = y.kind) = c0; generalize decide (x.round = y.round) = c1; generalize decide (x.valid = y.valid) = c2; generalize decide (x.hash = y.hash) = c3
  cases c0 <;> cases c1 <;> cases c2 <;> cases c3 <;> simp
@[go_sem ↓ high] theorem xq_GCoreAct (ρ : Operand → Value) (dst : Option Tmp) (x y : Operand) (ty yt : TypeId) (pos : String) (after : Array Edge) (guard : Option (Nat × Bool)) : execOp ρ { dst, op := .binOp .eql 160 x y yt, type := ty, pos, after, guard } = (do pure (.value (← gBin .eql 160 x y (ρ x) (ρ y)))) := ex_eql ..
@[go_sem ↓ high] theorem xn_GCoreAct (ρ : Operand → Value) (dst : Option Tmp) (x y : Operand) (ty yt : TypeId) (pos : String) (after : Array Edge) (guard : Option (Nat × Bool)) : execOp ρ { dst, op := .binOp .neq 160 x y yt, type := ty, pos, after, guard } = (do pure (.value (← gBin .neq 160 x y (ρ x) (ρ y)))) := ex_neq ..
theorem eg_GCoreAct : Tryz.prog.eqGuardType Tryz.prog.depth 160 = false := by kernel_rfl
@[go_sem ↓ high] theorem eql_GCoreAct (w : World) (ox oy : Operand) (x y : GCoreAct) : (gBin .eql 160 ox oy (GCoreAct.val x) (GCoreAct.val y)).run Tryz.prog w = .ok (.bool (decide (x = y))) w := by
  have h2 := eq_GCoreAct w 9997 x y
  rw [GCoreAct.val_eq, GCoreAct.val_eq] at h2 ⊢
  have h := run_eqGuard_agg (P := Tryz.prog) w .eql 160 ox oy (Enc.enc x).toArray (Enc.enc y).toArray eg_GCoreAct
  unfold gBin
  simp only [Sem.run_bind, h, Result.andThen_ok, run_eql_struct, h2]
@[go_sem ↓ high] theorem neq_GCoreAct (w : World) (ox oy : Operand) (x y : GCoreAct) : (gBin .neq 160 ox oy (GCoreAct.val x) (GCoreAct.val y)).run Tryz.prog w = .ok (.bool (!decide (x = y))) w := by
  have h2 := eq_GCoreAct w 9997 x y
  rw [GCoreAct.val_eq, GCoreAct.val_eq] at h2 ⊢
  have h := run_eqGuard_agg (P := Tryz.prog) w .neq 160 ox oy (Enc.enc x).toArray (Enc.enc y).toArray eg_GCoreAct
  unfold gBin
  simp only [Sem.run_bind, h, Result.andThen_ok, run_neq_struct, h2]

/-! ### gavel/core.proposal -/
structure GCoreProposal where
  valid : Int
  h : GHash
  ok : Bool
deriving DecidableEq
instance : Inhabited GCoreProposal := ⟨⟨0, default, false⟩⟩
def GCoreProposal.enc (x : GCoreProposal) : List Value := [(.int .i64 x.valid)] ++ (x.h.enc ++ ([(.bool x.ok)]))
theorem GCoreProposal.enc_len (x : GCoreProposal) : x.enc.length = 34 := by simp [GCoreProposal.enc, GHash.enc_len]
theorem GCoreProposal.enc_one (x : GCoreProposal) : ∀ u ∈ x.enc, u.oneCell' = true := by
  intro u hu
  simp only [GCoreProposal.enc, List.mem_append, List.mem_singleton] at hu
  rcases hu with hu | hu | hu
  · subst hu; rfl
  · exact Enc.one (α := GHash) _ _ hu
  · subst hu; rfl
theorem GCoreProposal.enc_inj (x y : GCoreProposal) (h : x.enc = y.enc) : x = y := by
  obtain ⟨a0, a1, a2⟩ := x
  obtain ⟨b0, b1, b2⟩ := y
  simp only [GCoreProposal.enc] at h
  obtain ⟨p0, q0⟩ := List.append_inj h (rfl)
  have e0 : a0 = b0 := by have := List.head_eq_of_cons_eq p0; injection this
  obtain ⟨p1, q1⟩ := List.append_inj q0 (by simp [GHash.enc_len])
  have e1 := Enc.inj (α := GHash) _ _ p1
  have e2 : a2 = b2 := by have := List.head_eq_of_cons_eq q1; injection this
  rw [e0, e1, e2]
instance : Enc GCoreProposal where
  n := 34
  enc := GCoreProposal.enc
  pos := by omega
  len := GCoreProposal.enc_len
  one := GCoreProposal.enc_one
  inj := GCoreProposal.enc_inj
@[go_sem] theorem GCoreProposal.n_eq : Enc.n GCoreProposal = 34 := rfl
@[irreducible] def GCoreProposal.val (x : GCoreProposal) : Value := .agg x.enc.toArray
theorem GCoreProposal.val_eq (x : GCoreProposal) : GCoreProposal.val x = .agg (Enc.enc x).toArray := by unfold GCoreProposal.val; rfl
theorem GCoreProposal.ext_all (x y : GCoreProposal) : x = y ↔ x.valid = y.valid ∧ x.h = y.h ∧ x.ok = y.ok := by
  constructor
  · intro h; cases h; simp
  · intro h; cases x; cases y; simp_all
theorem uu275 : Tryz.prog.underlying 275 = some (.struct (Tryz.prog.fieldsOf 275)) := by kernel_rfl
theorem st275 : Tryz.prog.stoodInHeld 275 = false := by kernel_rfl
theorem fl275 : fieldTO Tryz.prog 275 = [(3, 0), (37, 1), (4, 33)] := by kernel_rfl
theorem nb275 : noBlank Tryz.prog 275 = true := by kernel_rfl
@[go_sem ↓ high] theorem xl_GCoreProposal (ρ : Operand → Value) (dst : Option Tmp) (x : Operand) (ty : TypeId) (pos : String) (after : Array Edge) (guard : Option (Nat × Bool)) : execOp ρ { dst, op := .load 275 x, type := ty, pos, after, guard } = (do pure (.value (← gLoad 275 (ρ x)))) := ex_load ..
@[go_sem ↓ high] theorem xs_GCoreProposal (ρ : Operand → Value) (dst : Option Tmp) (x y : Operand) (ty : TypeId) (pos : String) (after : Array Edge) (guard : Option (Nat × Bool)) : execOp ρ { dst, op := .store 275 x y, type := ty, pos, after, guard } = (do gStore 275 (ρ x) (ρ y); pure .skip) := ex_store ..
@[go_sem ↓ high] theorem xb_GCoreProposal (ρ : Operand → Value) (dst : Option Tmp) (x : Operand) (ty : TypeId) (pos : String) (after : Array Edge) (guard : Option (Nat × Bool)) : execOp ρ { dst, op := .box 275 x, type := ty, pos, after, guard } = (do pure (.value (← gBox 275 (ρ x)))) := ex_box ..
@[go_sem ↓ high] theorem xa_GCoreProposal (ρ : Operand → Value) (dst : Option Tmp) (ty : TypeId) (pos : String) (after : Array Edge) (guard : Option (Nat × Bool)) : execOp ρ { dst, op := .alloc 275, type := ty, pos, after, guard } = (do pure (.value (← gAlloc 275))) := ex_alloc ..
theorem ag275 : aggT Tryz.prog 275 = true := by kernel_rfl
theorem sz275 : sizeT Tryz.prog 275 = 34 := by kernel_rfl
section
variable (w : World)
@[go_sem ↓ high] theorem ld_GCoreProposal (a : Addr) : (gLoad 275 (.pointer (some a))).run Tryz.prog w = ofOpt ((get? GCoreProposal w a).map GCoreProposal.val) w (noLoad Tryz.prog 275 a w) := by
  unfold gLoad; exact run_loadAt_opt ag275 sz275 GCoreProposal.val GCoreProposal.val_eq
@[go_sem ↓ high] theorem st_GCoreProposal (a : Addr) (x : GCoreProposal) : (gStore 275 (.pointer (some a)) (GCoreProposal.val x)).run Tryz.prog w = okU' ((get? GCoreProposal w a).isSome && blkFree w a.block) (World.putCells w a (GCoreProposal.enc x)) (noStore Tryz.prog 275 (.pointer (some a)) (GCoreProposal.val x) w) := run_gStore_any sz275 GCoreProposal.val GCoreProposal.val_eq w a x
@[go_sem ↓ high] theorem bx_GCoreProposal (x : GCoreProposal) : (gBox 275 (GCoreProposal.val x)).run Tryz.prog w = .ok (.pointer (some ⟨w.heap.size, 0, none⟩)) (w.alloc (.cells (GCoreProposal.enc x).toArray 275)) := by
  rw [GCoreProposal.val_eq]; exact run_gBox _ w
end
theorem lk275_0 (x : GCoreProposal) : x.enc[0]? = some (.int .i64 x.valid) := by
  simp [GCoreProposal.enc, List.getElem?_append]
theorem pt275_0 (w : World) (x : GCoreProposal) : (part 3 x.enc.toArray 0).run Tryz.prog w = .ok (.int .i64 x.valid) w := run_part_one na3 us3 (lk275_0 x)
@[go_sem ↓ high] theorem fd275_0 (w : World) (x : GCoreProposal) : (gField 275 (GCoreProposal.val x) 0).run Tryz.prog w = .ok (.int .i64 x.valid) w := by
  rw [GCoreProposal.val_eq]
  exact run_gField w uu275 (by rw [fl275]; rfl) (pt275_0 w x)
theorem ds275_1 (x : GCoreProposal) : (x.enc.drop 1).take 32 = x.h.enc := by
  unfold GCoreProposal.enc
  simp [List.drop_append, List.drop_eq_nil_of_le] <;> (rw [List.take_append_of_le_length (by simp [GHash.enc_len])]; exact List.take_of_length_le (by simp [GHash.enc_len]))
theorem pt275_1 (w : World) (x : GCoreProposal) : (part 37 x.enc.toArray 1).run Tryz.prog w = .ok (x.h.val) w := by
  have h := run_part_agg (P := Tryz.prog) (w := w) (cs := x.enc) (ds := x.h.enc) (off := 1) ag37 (by rw [GHash.enc_len]; exact sz37) (by simp [GHash.enc_len]) (by rw [GHash.enc_len]; exact ds275_1 x)
  rw [h, GHash.val_eq]; rfl
@[go_sem ↓ high] theorem fd275_1 (w : World) (x : GCoreProposal) : (gField 275 (GCoreProposal.val x) 1).run Tryz.prog w = .ok (x.h.val) w := by
  rw [GCoreProposal.val_eq]
  exact run_gField w uu275 (by rw [fl275]; rfl) (pt275_1 w x)
theorem lk275_2 (x : GCoreProposal) : x.enc[33]? = some (.bool x.ok) := by
  simp [GCoreProposal.enc, List.getElem?_append, GHash.enc_len]
theorem pt275_2 (w : World) (x : GCoreProposal) : (part 4 x.enc.toArray 33).run Tryz.prog w = .ok (.bool x.ok) w := run_part_one na4 us4 (lk275_2 x)
@[go_sem ↓ high] theorem fd275_2 (w : World) (x : GCoreProposal) : (gField 275 (GCoreProposal.val x) 2).run Tryz.prog w = .ok (.bool x.ok) w := by
  rw [GCoreProposal.val_eq]
  exact run_gField w uu275 (by rw [fl275]; rfl) (pt275_2 w x)
@[go_sem ↓ high] theorem xf_GCoreProposal (ρ : Operand → Value) (dst : Option Tmp) (x : Operand) (i : Nat) (ty : TypeId) (pos : String) (after : Array Edge) (guard : Option (Nat × Bool)) : execOp ρ { dst, op := .field 275 x i, type := ty, pos, after, guard } = (do pure (.value (← gField 275 (ρ x) i))) := ex_field ..
theorem zr275 : zeroT Tryz.prog 275 = some (.agg (GCoreProposal.enc default).toArray) := by kernel_rfl
@[go_sem ↓ high] theorem al_GCoreProposal (w : World) : (gAlloc 275).run Tryz.prog w = .ok (.pointer (some ⟨w.heap.size, 0, none⟩)) (w.alloc (.cells (GCoreProposal.enc default).toArray 275)) := run_zero_alloc zr275 w
@[go_sem] theorem pc_GCoreProposal (w : World) (n : Nat) (x z : GCoreProposal) (hn : n = w.heap.size) : World.putCells (w.alloc (.cells (GCoreProposal.enc z).toArray 275)) ⟨n, 0, none⟩ (GCoreProposal.enc x) = w.alloc (.cells (GCoreProposal.enc x).toArray 275) := putCells_top x z hn
theorem GCoreProposal.at_valid {w : World} {a : Addr} {x : GCoreProposal} (h : get? GCoreProposal w a = some x) : w.cell? (a.add 0) = some (.int .i64 x.valid) := (get?_iff.1 h) _ _ (lk275_0 x)
theorem GCoreProposal.at_h {w : World} {a : Addr} {x : GCoreProposal} (h : get? GCoreProposal w a = some x) : get? GHash w (a.add 1) = some x.h := by
  rw [get?_iff] at h ⊢
  refine h.sub 1 fun j v hv => ?_
  have hd := ds275_1 x
  have hj : j < 32 := by have := (List.getElem?_eq_some_iff.1 hv).1; rwa [Enc.len] at this
  show x.enc[1 + j]? = some v
  rw [← List.getElem?_drop, ← List.getElem?_take_of_lt hj, hd]; exact hv
theorem GCoreProposal.at_ok {w : World} {a : Addr} {x : GCoreProposal} (h : get? GCoreProposal w a = some x) : w.cell? (a.add 33) = some (.bool x.ok) := (get?_iff.1 h) _ _ (lk275_2 x)
@[go_sem] theorem nl275_0 (x : GCoreProposal) : x.enc[0]? = some (.int .i64 x.valid) := by
  have h := (GCoreProposal.at_valid (get?_new (w := (default : World)) 275 x))
  simp only [Addr.add_lit, Nat.zero_add, Nat.reduceAdd, World.cell?_alloc_new, List.getElem?_toArray] at h
  exact h
@[go_sem] theorem nw275_1_GHash (w : World) (n : Nat) (x : GCoreProposal) (hn : n = w.heap.size) : get? GHash (w.alloc (.cells (GCoreProposal.enc x).toArray 275)) ⟨n, 1, none⟩ = some x.h := by
  subst hn
  have h := (GCoreProposal.at_h (get?_new (w := w) 275 x))
  simp only [Addr.add_lit, Nat.zero_add, Nat.reduceAdd] at h
  exact h
@[go_sem] theorem nl275_33 (x : GCoreProposal) : x.enc[33]? = some (.bool x.ok) := by
  have h := (GCoreProposal.at_ok (get?_new (w := (default : World)) 275 x))
  simp only [Addr.add_lit, Nat.zero_add, Nat.reduceAdd, World.cell?_alloc_new, List.getElem?_toArray] at h
  exact h
@[go_sem] theorem nw275 (w : World) (n : Nat) (x : GCoreProposal) (hn : n = w.heap.size) : get? GCoreProposal (w.alloc (.cells (GCoreProposal.enc x).toArray 275)) ⟨n, 0, none⟩ = some x := by
  subst hn; exact get?_new 275 x
theorem pl275 : ((Tryz.prog.fieldsOf 275).toList.mapM fun f => (Tryz.prog.info? f.type).map fun i => (f.offset, i.size)) = some [(0, 1), (1, 32), (33, 1)] := by kernel_rfl
theorem fs275_0 (x : GCoreProposal) (v : Int) (rest : List (Nat × Value)) : Instr.fill (fun i => ([(0, 1), (1, 32), (33, 1)] : List (Nat × Nat))[i]?) x.enc.toArray ((0, (.int .i64 v)) :: rest) = Instr.fill (fun i => ([(0, 1), (1, 32), (33, 1)] : List (Nat × Nat))[i]?) ({ x with valid := v } : GCoreProposal).enc.toArray rest := by
  have h := fill_seg [(0, 1), (1, 32), (33, 1)] 0 0 1 rfl (([] : List Value)) ([(.int .i64 x.valid)]) (x.h.enc ++ ([(.bool x.ok)] ++ (([] : List Value)))) ([(.int .i64 v)]) (.int .i64 v) rest (rfl) (by simp [GHash.enc_len]) (by simp [GHash.enc_len]) (by simp [GHash.enc_len])
  have e1 : x.enc = (([] : List Value)) ++ ([(.int .i64 x.valid)] ++ (x.h.enc ++ ([(.bool x.ok)] ++ (([] : List Value))))) := by simp only [GCoreProposal.enc, List.nil_append, List.append_assoc, List.append_nil]
  have e2 : ({ x with valid := v } : GCoreProposal).enc = (([] : List Value)) ++ ([(.int .i64 v)] ++ (x.h.enc ++ ([(.bool x.ok)] ++ (([] : List Value))))) := by simp only [GCoreProposal.enc, List.nil_append, List.append_assoc, List.append_nil]
  rw [e1, e2]; exact h
theorem fs275_1 (x : GCoreProposal) (v : GHash) (rest : List (Nat × Value)) : Instr.fill (fun i => ([(0, 1), (1, 32), (33, 1)] : List (Nat × Nat))[i]?) x.enc.toArray ((1, (v.val)) :: rest) = Instr.fill (fun i => ([(0, 1), (1, 32), (33, 1)] : List (Nat × Nat))[i]?) ({ x with h := v } : GCoreProposal).enc.toArray rest := by
  have h := fill_seg [(0, 1), (1, 32), (33, 1)] 1 1 32 rfl (([] : List Value) ++ ([(.int .i64 x.valid)])) (x.h.enc) ([(.bool x.ok)] ++ (([] : List Value))) (v.enc) (v.val) rest (by rw [GHash.val_eq]; rfl) (by simp [GHash.enc_len]) (by simp [GHash.enc_len]) (by simp [GHash.enc_len])
  have e1 : x.enc = (([] : List Value) ++ ([(.int .i64 x.valid)])) ++ (x.h.enc ++ ([(.bool x.ok)] ++ (([] : List Value)))) := by simp only [GCoreProposal.enc, List.nil_append, List.append_assoc, List.append_nil]
  have e2 : ({ x with h := v } : GCoreProposal).enc = (([] : List Value) ++ ([(.int .i64 x.valid)])) ++ (v.enc ++ ([(.bool x.ok)] ++ (([] : List Value)))) := by simp only [GCoreProposal.enc, List.nil_append, List.append_assoc, List.append_nil]
  rw [e1, e2]; exact h
theorem fs275_2 (x : GCoreProposal) (v : Bool) (rest : List (Nat × Value)) : Instr.fill (fun i => ([(0, 1), (1, 32), (33, 1)] : List (Nat × Nat))[i]?) x.enc.toArray ((2, (.bool v)) :: rest) = Instr.fill (fun i => ([(0, 1), (1, 32), (33, 1)] : List (Nat × Nat))[i]?) ({ x with ok := v } : GCoreProposal).enc.toArray rest := by
  have h := fill_seg [(0, 1), (1, 32), (33, 1)] 2 33 1 rfl (([] : List Value) ++ ([(.int .i64 x.valid)] ++ (x.h.enc))) ([(.bool x.ok)]) (([] : List Value)) ([(.bool v)]) (.bool v) rest (rfl) (by simp [GHash.enc_len]) (by simp [GHash.enc_len]) (by simp [GHash.enc_len])
  have e1 : x.enc = (([] : List Value) ++ ([(.int .i64 x.valid)] ++ (x.h.enc))) ++ ([(.bool x.ok)] ++ (([] : List Value))) := by simp only [GCoreProposal.enc, List.nil_append, List.append_assoc, List.append_nil]
  have e2 : ({ x with ok := v } : GCoreProposal).enc = (([] : List Value) ++ ([(.int .i64 x.valid)] ++ (x.h.enc))) ++ ([(.bool v)] ++ (([] : List Value))) := by simp only [GCoreProposal.enc, List.nil_append, List.append_assoc, List.append_nil]
  rw [e1, e2]; exact h
@[go_sem ↓ high] theorem xd_GCoreProposal (ρ : Operand → Value) (dst : Option Tmp) (ps : Array (Nat × Operand)) (ty : TypeId) (pos : String) (after : Array Edge) (guard : Option (Nat × Bool)) : execOp ρ { dst, op := .build 275 ps, type := ty, pos, after, guard } = (do pure (.value (← gBuild 275 (ps.map fun (i, x) => (i, ρ x))))) := ex_build ..
@[go_sem ↓ high] theorem bd275_0 (w : World) (v0 : Int) (v1 : GHash) (v2 : Bool) : (gBuild 275 #[(0, (.int .i64 v0)), (1, (v1.val)), (2, (.bool v2))]).run Tryz.prog w = .ok (GCoreProposal.val ⟨v0, v1, v2⟩) w := by
  rw [GCoreProposal.val_eq]
  refine run_gBuild_of uu275 zr275 pl275 ?_ w
  show Instr.fill _ (GCoreProposal.enc default).toArray [(0, (.int .i64 v0)), (1, (v1.val)), (2, (.bool v2))] = _
  rw [fs275_0, fs275_1, fs275_2]; rfl
theorem eq_GCoreProposal (w : World) (d : Nat) (x y : GCoreProposal) : (Op.equalIn (d + 3) 275 (GCoreProposal.val x) (GCoreProposal.val y)).run Tryz.prog w = .ok (decide (x = y)) w := by
  have q0 : ∀ a b, (Op.equalIn (d + 2) 3 (.int .i64 a) (.int .i64 b)).run Tryz.prog w = .ok (decide (a = b)) w := fun a b => by rw [run_equalIn_int w (d + 1) 3 .i64 .i64 a b uk3]; congr 1
  have q1 : (Op.equalIn (d + 2) 37 x.h.val y.h.val).run Tryz.prog w = .ok (decide (x.h = y.h)) w := eq_GHash w (d + 0) _ _
  have q2 : ∀ a b, (Op.equalIn (d + 2) 4 (.bool a) (.bool b)).run Tryz.prog w = .ok (decide (a = b)) w := fun a b => by rw [run_equalIn_bool' w (d + 1) 4 a b uk4]; cases a <;> cases b <;> rfl
  have h := run_equalIn_fields (d + 2) x.enc.toArray y.enc.toArray w uu275 st275 nb275
  rw [fl275] at h
  unfold GCoreProposal.val
  refine h.trans ?_
  clear h
  simp only [eqFs, Sem.run_bind, pt275_0, pt275_1, pt275_2, q0, q1, q2, Result.andThen_ok, Sem.run_ite, Sem.run_pure]
  have he : decide (x = y) = (decide (x.valid = y.valid) && (decide (x.h = y.h) && (decide (x.ok = y.ok)))) := by
    rw [Bool.eq_iff_iff]; simp only [Bool.and_eq_true, decide_eq_true_eq]; exact GCoreProposal.ext_all x y
  rw [he]
  generalize decide (x.valid = y.valid) = c0; generalize decide (x.h = y.h) = c1; generalize decide (x.ok = y.ok) = c2
  cases c0 <;> cases c1 <;> cases c2 <;> simp
@[go_sem ↓ high] theorem xq_GCoreProposal (ρ : Operand → Value) (dst : Option Tmp) (x y : Operand) (ty yt : TypeId) (pos : String) (after : Array Edge) (guard : Option (Nat × Bool)) : execOp ρ { dst, op := .binOp .eql 275 x y yt, type := ty, pos, after, guard } = (do pure (.value (← gBin .eql 275 x y (ρ x) (ρ y)))) := ex_eql ..
@[go_sem ↓ high] theorem xn_GCoreProposal (ρ : Operand → Value) (dst : Option Tmp) (x y : Operand) (ty yt : TypeId) (pos : String) (after : Array Edge) (guard : Option (Nat × Bool)) : execOp ρ { dst, op := .binOp .neq 275 x y yt, type := ty, pos, after, guard } = (do pure (.value (← gBin .neq 275 x y (ρ x) (ρ y)))) := ex_neq ..
theorem eg_GCoreProposal : Tryz.prog.eqGuardType Tryz.prog.depth 275 = false := by kernel_rfl
@[go_sem ↓ high] theorem eql_GCoreProposal (w : World) (ox oy : Operand) (x y : GCoreProposal) : (gBin .eql 275 ox oy (GCoreProposal.val x) (GCoreProposal.val y)).run Tryz.prog w = .ok (.bool (decide (x = y))) w := by
  have h2 := eq_GCoreProposal w 9997 x y
  rw [GCoreProposal.val_eq, GCoreProposal.val_eq] at h2 ⊢
  have h := run_eqGuard_agg (P := Tryz.prog) w .eql 275 ox oy (Enc.enc x).toArray (Enc.enc y).toArray eg_GCoreProposal
  unfold gBin
  simp only [Sem.run_bind, h, Result.andThen_ok, run_eql_struct, h2]
@[go_sem ↓ high] theorem neq_GCoreProposal (w : World) (ox oy : Operand) (x y : GCoreProposal) : (gBin .neq 275 ox oy (GCoreProposal.val x) (GCoreProposal.val y)).run Tryz.prog w = .ok (.bool (!decide (x = y))) w := by
  have h2 := eq_GCoreProposal w 9997 x y
  rw [GCoreProposal.val_eq, GCoreProposal.val_eq] at h2 ⊢
  have h := run_eqGuard_agg (P := Tryz.prog) w .neq 275 ox oy (Enc.enc x).toArray (Enc.enc y).toArray eg_GCoreProposal
  unfold gBin
  simp only [Sem.run_bind, h, Result.andThen_ok, run_neq_struct, h2]
/-! ### []core.Act -/
theorem ei108 : ElemI Tryz.prog 108 160 GCoreAct 56 := ⟨by kernel_rfl, by kernel_rfl⟩
@[go_sem ↓ high] theorem xg_108 (ρ : Operand → Value) (dst : Option Tmp) (ps : Array (Nat × Operand)) (ty : TypeId) (pos : String) (after : Array Edge) (guard : Option (Nat × Bool)) : execOp ρ { dst, op := .buildSlice 108 1 ps, type := ty, pos, after, guard } = (do pure (.value (← gBuildSlice 108 1 (ps.map fun (i, x) => (i, ρ x))))) := ex_buildSlice ..
@[go_sem ↓ high] theorem bs_108 (w : World) (x : GCoreAct) : (gBuildSlice 108 1 #[(0, GCoreAct.val x)]).run Tryz.prog w = .ok (.slice (some ⟨w.heap.size, 0, none⟩) 1 1) (w.alloc (.cells (GCoreAct.enc x).toArray 160)) := by
  rw [GCoreAct.val_eq]; exact run_buildSlice_one ei108 (by decide) x w
instance : KEnc GTallyVoter := ⟨GTallyVoter.val, fun a b h => by rw [GTallyVoter.val_eq, GTallyVoter.val_eq] at h; injection h with h; exact Enc.inj _ _ (by simpa using congrArg Array.toList h)⟩
theorem kl303 : KeyLaws Tryz.prog 303 GTallyVoter where
  chk := fun e k w => by
    show (Instr.checkKey e 10000 303 (GTallyVoter.val k)).run Tryz.prog w = _
    rw [GTallyVoter.val_eq]
    rw [run_checkKey_struct e 9999 _ w uu303 nb303, fl303]
    show (chkFs e 9999 k.enc.toArray _).run Tryz.prog w = _
    simp only [chkFs, Sem.run_bind, pt303_0, pt303_1, pt303_2, Result.andThen_ok, run_checkKey_one e 9998 uk3, Sem.run_pure]
  fnd := fnd_struct (fun k k' w => eq_GTallyVoter w 9998 k k') uu303 (fun k k' => by show Instr.sameNow _ (GTallyVoter.val k) (GTallyVoter.val k') = none; rw [GTallyVoter.val_eq, GTallyVoter.val_eq]; rfl)
  same := fun k => by
    show Instr.sameBits 10000 (GTallyVoter.val k) (GTallyVoter.val k) = true
    rw [GTallyVoter.val_eq]
    exact sameBits_cells 9999 _ (Enc.one k) (fun u hu => by
      have hu' : u ∈ k.enc := hu
      unfold GTallyVoter.enc at hu'
      simp only [List.mem_append, List.mem_singleton] at hu'
      rcases hu' with rfl | rfl | rfl <;> exact sameBits_int _ _ _)

/-! ### map[tally.voter]bool -/
theorem um233 : Tryz.prog.underlying 233 = some (.map 303 4) := by kernel_rfl
theorem zv233_4 : zeroT Tryz.prog 4 = some (VEnc.vv (false : Bool)) := by kernel_rfl
@[go_sem ↓ high] theorem xk_233 (ρ : Operand → Value) (dst : Option Tmp) (x y : Operand) (ok : Bool) (ty : TypeId) (pos : String) (after : Array Edge) (guard : Option (Nat × Bool)) : execOp ρ { dst, op := .lookup 233 x y ok, type := ty, pos, after, guard } = (do pure (.value (← gLookup 233 (ρ x) (ρ y) ok))) := ex_lookup ..
@[go_sem ↓ high] theorem xu_233 (ρ : Operand → Value) (dst : Option Tmp) (x y z : Operand) (ty : TypeId) (pos : String) (after : Array Edge) (guard : Option (Nat × Bool)) : execOp ρ { dst, op := .mapUpdate 233 x y z, type := ty, pos, after, guard } = (do gMapUpdate 233 (ρ x) (ρ y) (ρ z); pure .skip) := ex_mapUpdate ..
@[go_sem ↓ high] theorem lk_233 (w : World) (r : Nat) (k : GTallyVoter) : (gLookup 233 (.map (some r)) (GTallyVoter.val k) false).run Tryz.prog w = ofOpt ((mapAt GTallyVoter Bool w r).map fun m => (.bool ((mget m k).getD false))) w (noLookup Tryz.prog 233 (.map (some r)) (GTallyVoter.val k) false w) :=
  run_gLookup kl303 um233 zv233_4 w r k
@[go_sem ↓ high] theorem lo_233 (w : World) (r : Nat) (k : GTallyVoter) : (gLookup 233 (.map (some r)) (GTallyVoter.val k) true).run Tryz.prog w = ofOpt ((mapAt GTallyVoter Bool w r).map fun m => .tuple #[(.bool ((mget m k).getD false)), .bool (mget m k).isSome]) w (noLookup Tryz.prog 233 (.map (some r)) (GTallyVoter.val k) true w) :=
  run_gLookup_ok kl303 um233 zv233_4 w r k
@[go_sem ↓ high] theorem ln_233 (w : World) (k : GTallyVoter) : (gLookup 233 (.map none) (GTallyVoter.val k) false).run Tryz.prog w = .ok (.bool (false : Bool)) w :=
  run_gLookup_nil kl303 um233 zv233_4 w k
@[go_sem ↓ high] theorem mu_233 (w : World) (r : Nat) (k : GTallyVoter) (v : Bool) : (gMapUpdate 233 (.map (some r)) (GTallyVoter.val k) (.bool v)).run Tryz.prog w = okU ((mapAt GTallyVoter Bool w r).isSome) (mput Tryz.prog 233 w r k v) (noUpdate Tryz.prog 233 (.map (some r)) (GTallyVoter.val k) (.bool v) w) :=
  run_gMapUpdate kl303 um233 w r k v
@[go_sem] theorem sz_mput_233 (w : World) (r : Nat) (k : GTallyVoter) (v : Bool) (h : (mapAt GTallyVoter Bool w r).isSome = true) : (mput Tryz.prog 233 w r k v).heap.size = w.heap.size := by
  obtain ⟨m, hm⟩ := Option.isSome_iff_exists.1 h; exact mput_size kl303 um233 hm k v
instance : KEnc GTallyTurn := ⟨GTallyTurn.val, fun a b h => by rw [GTallyTurn.val_eq, GTallyTurn.val_eq] at h; injection h with h; exact Enc.inj _ _ (by simpa using congrArg Array.toList h)⟩
theorem kl307 : KeyLaws Tryz.prog 307 GTallyTurn where
  chk := fun e k w => by
    show (Instr.checkKey e 10000 307 (GTallyTurn.val k)).run Tryz.prog w = _
    rw [GTallyTurn.val_eq]
    rw [run_checkKey_struct e 9999 _ w uu307 nb307, fl307]
    show (chkFs e 9999 k.enc.toArray _).run Tryz.prog w = _
    simp only [chkFs, Sem.run_bind, pt307_0, pt307_1, Result.andThen_ok, run_checkKey_one e 9998 uk3, Sem.run_pure]
  fnd := fnd_struct (fun k k' w => eq_GTallyTurn w 9998 k k') uu307 (fun k k' => by show Instr.sameNow _ (GTallyTurn.val k) (GTallyTurn.val k') = none; rw [GTallyTurn.val_eq, GTallyTurn.val_eq]; rfl)
  same := fun k => by
    show Instr.sameBits 10000 (GTallyTurn.val k) (GTallyTurn.val k) = true
    rw [GTallyTurn.val_eq]
    exact sameBits_cells 9999 _ (Enc.one k) (fun u hu => by
      have hu' : u ∈ k.enc := hu
      unfold GTallyTurn.enc at hu'
      simp only [List.mem_append, List.mem_singleton] at hu'
      rcases hu' with rfl | rfl <;> exact sameBits_int _ _ _)

/-! ### map[tally.turn]int -/
theorem um235 : Tryz.prog.underlying 235 = some (.map 307 3) := by kernel_rfl
theorem zv235_3 : zeroT Tryz.prog 3 = some (VEnc.vv (0 : Int)) := by kernel_rfl
@[go_sem ↓ high] theorem xk_235 (ρ : Operand → Value) (dst : Option Tmp) (x y : Operand) (ok : Bool) (ty : TypeId) (pos : String) (after : Array Edge) (guard : Option (Nat × Bool)) : execOp ρ { dst, op := .lookup 235 x y ok, type := ty, pos, after, guard } = (do pure (.value (← gLookup 235 (ρ x) (ρ y) ok))) := ex_lookup ..
@[go_sem ↓ high] theorem xu_235 (ρ : Operand → Value) (dst : Option Tmp) (x y z : Operand) (ty : TypeId) (pos : String) (after : Array Edge) (guard : Option (Nat × Bool)) : execOp ρ { dst, op := .mapUpdate 235 x y z, type := ty, pos, after, guard } = (do gMapUpdate 235 (ρ x) (ρ y) (ρ z); pure .skip) := ex_mapUpdate ..
@[go_sem ↓ high] theorem lk_235 (w : World) (r : Nat) (k : GTallyTurn) : (gLookup 235 (.map (some r)) (GTallyTurn.val k) false).run Tryz.prog w = ofOpt ((mapAt GTallyTurn Int w r).map fun m => (.int .i64 ((mget m k).getD 0))) w (noLookup Tryz.prog 235 (.map (some r)) (GTallyTurn.val k) false w) :=
  run_gLookup kl307 um235 zv235_3 w r k
@[go_sem ↓ high] theorem lo_235 (w : World) (r : Nat) (k : GTallyTurn) : (gLookup 235 (.map (some r)) (GTallyTurn.val k) true).run Tryz.prog w = ofOpt ((mapAt GTallyTurn Int w r).map fun m => .tuple #[(.int .i64 ((mget m k).getD 0)), .bool (mget m k).isSome]) w (noLookup Tryz.prog 235 (.map (some r)) (GTallyTurn.val k) true w) :=
  run_gLookup_ok kl307 um235 zv235_3 w r k
@[go_sem ↓ high] theorem ln_235 (w : World) (k : GTallyTurn) : (gLookup 235 (.map none) (GTallyTurn.val k) false).run Tryz.prog w = .ok (.int .i64 (0 : Int)) w :=
  run_gLookup_nil kl307 um235 zv235_3 w k
@[go_sem ↓ high] theorem mu_235 (w : World) (r : Nat) (k : GTallyTurn) (v : Int) : (gMapUpdate 235 (.map (some r)) (GTallyTurn.val k) (.int .i64 v)).run Tryz.prog w = okU ((mapAt GTallyTurn Int w r).isSome) (mput Tryz.prog 235 w r k v) (noUpdate Tryz.prog 235 (.map (some r)) (GTallyTurn.val k) (.int .i64 v) w) :=
  run_gMapUpdate kl307 um235 w r k v
@[go_sem] theorem sz_mput_235 (w : World) (r : Nat) (k : GTallyTurn) (v : Int) (h : (mapAt GTallyTurn Int w r).isSome = true) : (mput Tryz.prog 235 w r k v).heap.size = w.heap.size := by
  obtain ⟨m, hm⟩ := Option.isSome_iff_exists.1 h; exact mput_size kl307 um235 hm k v

/-! ### map[int]int -/
theorem um236 : Tryz.prog.underlying 236 = some (.map 3 3) := by kernel_rfl
theorem zv236_3 : zeroT Tryz.prog 3 = some (VEnc.vv (0 : Int)) := by kernel_rfl
@[go_sem ↓ high] theorem xk_236 (ρ : Operand → Value) (dst : Option Tmp) (x y : Operand) (ok : Bool) (ty : TypeId) (pos : String) (after : Array Edge) (guard : Option (Nat × Bool)) : execOp ρ { dst, op := .lookup 236 x y ok, type := ty, pos, after, guard } = (do pure (.value (← gLookup 236 (ρ x) (ρ y) ok))) := ex_lookup ..
@[go_sem ↓ high] theorem xu_236 (ρ : Operand → Value) (dst : Option Tmp) (x y z : Operand) (ty : TypeId) (pos : String) (after : Array Edge) (guard : Option (Nat × Bool)) : execOp ρ { dst, op := .mapUpdate 236 x y z, type := ty, pos, after, guard } = (do gMapUpdate 236 (ρ x) (ρ y) (ρ z); pure .skip) := ex_mapUpdate ..
@[go_sem ↓ high] theorem lk_236 (w : World) (r : Nat) (k : Int) : (gLookup 236 (.map (some r)) (.int .i64 k) false).run Tryz.prog w = ofOpt ((mapAt Int Int w r).map fun m => (.int .i64 ((mget m k).getD 0))) w (noLookup Tryz.prog 236 (.map (some r)) (.int .i64 k) false w) :=
  run_gLookup kl3 um236 zv236_3 w r k
@[go_sem ↓ high] theorem lo_236 (w : World) (r : Nat) (k : Int) : (gLookup 236 (.map (some r)) (.int .i64 k) true).run Tryz.prog w = ofOpt ((mapAt Int Int w r).map fun m => .tuple #[(.int .i64 ((mget m k).getD 0)), .bool (mget m k).isSome]) w (noLookup Tryz.prog 236 (.map (some r)) (.int .i64 k) true w) :=
  run_gLookup_ok kl3 um236 zv236_3 w r k
@[go_sem ↓ high] theorem ln_236 (w : World) (k : Int) : (gLookup 236 (.map none) (.int .i64 k) false).run Tryz.prog w = .ok (.int .i64 (0 : Int)) w :=
  run_gLookup_nil kl3 um236 zv236_3 w k
@[go_sem ↓ high] theorem mu_236 (w : World) (r : Nat) (k : Int) (v : Int) : (gMapUpdate 236 (.map (some r)) (.int .i64 k) (.int .i64 v)).run Tryz.prog w = okU ((mapAt Int Int w r).isSome) (mput Tryz.prog 236 w r k v) (noUpdate Tryz.prog 236 (.map (some r)) (.int .i64 k) (.int .i64 v) w) :=
  run_gMapUpdate kl3 um236 w r k v
@[go_sem] theorem sz_mput_236 (w : World) (r : Nat) (k : Int) (v : Int) (h : (mapAt Int Int w r).isSome = true) : (mput Tryz.prog 236 w r k v).heap.size = w.heap.size := by
  obtain ⟨m, hm⟩ := Option.isSome_iff_exists.1 h; exact mput_size kl3 um236 hm k v
instance : VEnc GCoreProposal := ⟨GCoreProposal.val, fun a b h => by rw [GCoreProposal.val_eq, GCoreProposal.val_eq] at h; injection h with h; exact Enc.inj _ _ (by simpa using congrArg Array.toList h)⟩

/-! ### map[int]core.proposal -/
theorem um164 : Tryz.prog.underlying 164 = some (.map 3 275) := by kernel_rfl
theorem zv164_275 : zeroT Tryz.prog 275 = some (VEnc.vv (default : GCoreProposal)) := by kernel_rfl
@[go_sem ↓ high] theorem xk_164 (ρ : Operand → Value) (dst : Option Tmp) (x y : Operand) (ok : Bool) (ty : TypeId) (pos : String) (after : Array Edge) (guard : Option (Nat × Bool)) : execOp ρ { dst, op := .lookup 164 x y ok, type := ty, pos, after, guard } = (do pure (.value (← gLookup 164 (ρ x) (ρ y) ok))) := ex_lookup ..
@[go_sem ↓ high] theorem xu_164 (ρ : Operand → Value) (dst : Option Tmp) (x y z : Operand) (ty : TypeId) (pos : String) (after : Array Edge) (guard : Option (Nat × Bool)) : execOp ρ { dst, op := .mapUpdate 164 x y z, type := ty, pos, after, guard } = (do gMapUpdate 164 (ρ x) (ρ y) (ρ z); pure .skip) := ex_mapUpdate ..
@[go_sem ↓ high] theorem lk_164 (w : World) (r : Nat) (k : Int) : (gLookup 164 (.map (some r)) (.int .i64 k) false).run Tryz.prog w = ofOpt ((mapAt Int GCoreProposal w r).map fun m => (GCoreProposal.val ((mget m k).getD default))) w (noLookup Tryz.prog 164 (.map (some r)) (.int .i64 k) false w) :=
  run_gLookup kl3 um164 zv164_275 w r k
@[go_sem ↓ high] theorem lo_164 (w : World) (r : Nat) (k : Int) : (gLookup 164 (.map (some r)) (.int .i64 k) true).run Tryz.prog w = ofOpt ((mapAt Int GCoreProposal w r).map fun m => .tuple #[(GCoreProposal.val ((mget m k).getD default)), .bool (mget m k).isSome]) w (noLookup Tryz.prog 164 (.map (some r)) (.int .i64 k) true w) :=
  run_gLookup_ok kl3 um164 zv164_275 w r k
@[go_sem ↓ high] theorem ln_164 (w : World) (k : Int) : (gLookup 164 (.map none) (.int .i64 k) false).run Tryz.prog w = .ok (GCoreProposal.val (default : GCoreProposal)) w :=
  run_gLookup_nil kl3 um164 zv164_275 w k
@[go_sem ↓ high] theorem mu_164 (w : World) (r : Nat) (k : Int) (v : GCoreProposal) : (gMapUpdate 164 (.map (some r)) (.int .i64 k) (GCoreProposal.val v)).run Tryz.prog w = okU ((mapAt Int GCoreProposal w r).isSome) (mput Tryz.prog 164 w r k v) (noUpdate Tryz.prog 164 (.map (some r)) (.int .i64 k) (GCoreProposal.val v) w) :=
  run_gMapUpdate kl3 um164 w r k v
@[go_sem] theorem sz_mput_164 (w : World) (r : Nat) (k : Int) (v : GCoreProposal) (h : (mapAt Int GCoreProposal w r).isSome = true) : (mput Tryz.prog 164 w r k v).heap.size = w.heap.size := by
  obtain ⟨m, hm⟩ := Option.isSome_iff_exists.1 h; exact mput_size kl3 um164 hm k v

end Go.Proofs.YthkifibmihijaaaGreatDoor
