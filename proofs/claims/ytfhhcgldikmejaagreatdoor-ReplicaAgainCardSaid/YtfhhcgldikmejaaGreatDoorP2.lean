/- The struct types of this seat as Lean types, with the runs of single operations over them. Conditions: those named in each theorem. -/
import Derived.Test.YtfhhcgldikmejaaGreatDoorP1
/- The struct types of this seat as Lean types, with the runs of single operations over them. Conditions: those named in each theorem. -/
namespace Go.Proofs.YtfhhcgldikmejaaGreatDoor
open Go Go.RowKit Go.Gv
set_option linter.unusedSimpArgs false

theorem na9 : aggT Tryz.prog 9 = false := by kernel_rfl
theorem us9 : (Tryz.prog.underlying 9).isSome = true := by kernel_rfl
theorem uk9 : Tryz.prog.underlying 9 = some .string := by kernel_rfl
/-! ### gavel/code.Writer -/
structure GCodeWriter where
  b : Hdr
deriving DecidableEq
instance : Inhabited GCodeWriter := ⟨⟨default⟩⟩
def GCodeWriter.enc (x : GCodeWriter) : List Value := [(x.b.val)]
theorem GCodeWriter.enc_len (x : GCodeWriter) : x.enc.length = 1 := by simp [GCodeWriter.enc]
theorem GCodeWriter.enc_one (x : GCodeWriter) : ∀ u ∈ x.enc, u.oneCell' = true := by
  intro u hu
  simp only [GCodeWriter.enc, List.mem_append, List.mem_singleton] at hu
  subst hu; rfl
theorem GCodeWriter.enc_inj (x y : GCodeWriter) (h : x.enc = y.enc) : x = y := by
  obtain ⟨a0⟩ := x
  obtain ⟨b0⟩ := y
  simp only [GCodeWriter.enc] at h
  have e0 : a0 = b0 := Enc.inj (α := Hdr) _ _ h
  rw [e0]
instance : Enc GCodeWriter where
  n := 1
  enc := GCodeWriter.enc
  pos := by omega
  len := GCodeWriter.enc_len
  one := GCodeWriter.enc_one
  inj := GCodeWriter.enc_inj
@[go_sem] theorem GCodeWriter.n_eq : Enc.n GCodeWriter = 1 := rfl
@[irreducible] def GCodeWriter.val (x : GCodeWriter) : Value := .agg x.enc.toArray
theorem GCodeWriter.val_eq (x : GCodeWriter) : GCodeWriter.val x = .agg (Enc.enc x).toArray := by unfold GCodeWriter.val; rfl
@[go_sem ↓ high] theorem xb_GCodeWriter (ρ : Operand → Value) (dst : Option Tmp) (x : Operand) (ty : TypeId) (pos : String) (after : Array Edge) (guard : Option (Nat × Bool)) : execOp ρ { dst, op := .box 350 x, type := ty, pos, after, guard } = (do pure (.value (← gBox 350 (ρ x)))) := ex_box ..
section
variable (w : World)
@[go_sem ↓ high] theorem bx_GCodeWriter (x : GCodeWriter) : (gBox 350 (GCodeWriter.val x)).run Tryz.prog w = .ok (.pointer (some ⟨w.heap.size, 0, none⟩)) (w.alloc (.cells (GCodeWriter.enc x).toArray 350)) := by
  rw [GCodeWriter.val_eq]; exact run_gBox _ w
end
theorem lk350_0 (x : GCodeWriter) : x.enc[0]? = some (x.b.val) := by
  simp [GCodeWriter.enc, List.getElem?_append]
theorem GCodeWriter.at_b {w : World} {a : Addr} {x : GCodeWriter} (h : get? GCodeWriter w a = some x) : w.cell? (a.add 0) = some (x.b.val) := (get?_iff.1 h) _ _ (lk350_0 x)
/-! ### gavel/book.Book -/
structure GBookBook where
  marks : Option Nat
deriving DecidableEq
instance : Inhabited GBookBook := ⟨⟨none⟩⟩
def GBookBook.enc (x : GBookBook) : List Value := [(.map x.marks)]
theorem GBookBook.enc_len (x : GBookBook) : x.enc.length = 1 := by simp [GBookBook.enc]
theorem GBookBook.enc_one (x : GBookBook) : ∀ u ∈ x.enc, u.oneCell' = true := by
  intro u hu
  simp only [GBookBook.enc, List.mem_append, List.mem_singleton] at hu
  subst hu; rfl
theorem GBookBook.enc_inj (x y : GBookBook) (h : x.enc = y.enc) : x = y := by
  obtain ⟨a0⟩ := x
  obtain ⟨b0⟩ := y
  simp only [GBookBook.enc] at h
  have e0 : a0 = b0 := by have := List.head_eq_of_cons_eq h; injection this
  rw [e0]
instance : Enc GBookBook where
  n := 1
  enc := GBookBook.enc
  pos := by omega
  len := GBookBook.enc_len
  one := GBookBook.enc_one
  inj := GBookBook.enc_inj
@[go_sem] theorem GBookBook.n_eq : Enc.n GBookBook = 1 := rfl
@[irreducible] def GBookBook.val (x : GBookBook) : Value := .agg x.enc.toArray
theorem GBookBook.val_eq (x : GBookBook) : GBookBook.val x = .agg (Enc.enc x).toArray := by unfold GBookBook.val; rfl
theorem uu112 : Tryz.prog.underlying 112 = some (.struct (Tryz.prog.fieldsOf 112)) := by kernel_rfl
@[go_sem ↓ high] theorem xb_GBookBook (ρ : Operand → Value) (dst : Option Tmp) (x : Operand) (ty : TypeId) (pos : String) (after : Array Edge) (guard : Option (Nat × Bool)) : execOp ρ { dst, op := .box 112 x, type := ty, pos, after, guard } = (do pure (.value (← gBox 112 (ρ x)))) := ex_box ..
section
variable (w : World)
@[go_sem ↓ high] theorem bx_GBookBook (x : GBookBook) : (gBox 112 (GBookBook.val x)).run Tryz.prog w = .ok (.pointer (some ⟨w.heap.size, 0, none⟩)) (w.alloc (.cells (GBookBook.enc x).toArray 112)) := by
  rw [GBookBook.val_eq]; exact run_gBox _ w
end
theorem lk112_0 (x : GBookBook) : x.enc[0]? = some (.map x.marks) := by
  simp [GBookBook.enc, List.getElem?_append]
theorem zr112 : zeroT Tryz.prog 112 = some (.agg (GBookBook.enc default).toArray) := by kernel_rfl
theorem GBookBook.at_marks {w : World} {a : Addr} {x : GBookBook} (h : get? GBookBook w a = some x) : w.cell? (a.add 0) = some (.map x.marks) := (get?_iff.1 h) _ _ (lk112_0 x)
@[go_sem] theorem nw112 (w : World) (n : Nat) (x : GBookBook) (hn : n = w.heap.size) : get? GBookBook (w.alloc (.cells (GBookBook.enc x).toArray 112)) ⟨n, 0, none⟩ = some x := by
  subst hn; exact get?_new 112 x
theorem pl112 : ((Tryz.prog.fieldsOf 112).toList.mapM fun f => (Tryz.prog.info? f.type).map fun i => (f.offset, i.size)) = some [(0, 1)] := by kernel_rfl
theorem fs112_0 (x : GBookBook) (v : Option Nat) (rest : List (Nat × Value)) : Instr.fill (fun i => ([(0, 1)] : List (Nat × Nat))[i]?) x.enc.toArray ((0, (.map v)) :: rest) = Instr.fill (fun i => ([(0, 1)] : List (Nat × Nat))[i]?) ({ x with marks := v } : GBookBook).enc.toArray rest := by
  have h := fill_seg [(0, 1)] 0 0 1 rfl (([] : List Value)) ([(.map x.marks)]) (([] : List Value)) ([(.map v)]) (.map v) rest (rfl) (by simp) (by simp) (by simp)
  have e1 : x.enc = (([] : List Value)) ++ ([(.map x.marks)] ++ (([] : List Value))) := by simp only [GBookBook.enc, List.nil_append, List.append_assoc, List.append_nil]
  have e2 : ({ x with marks := v } : GBookBook).enc = (([] : List Value)) ++ ([(.map v)] ++ (([] : List Value))) := by simp only [GBookBook.enc, List.nil_append, List.append_assoc, List.append_nil]
  rw [e1, e2]; exact h
@[go_sem ↓ high] theorem xd_GBookBook (ρ : Operand → Value) (dst : Option Tmp) (ps : Array (Nat × Operand)) (ty : TypeId) (pos : String) (after : Array Edge) (guard : Option (Nat × Bool)) : execOp ρ { dst, op := .build 112 ps, type := ty, pos, after, guard } = (do pure (.value (← gBuild 112 (ps.map fun (i, x) => (i, ρ x))))) := ex_build ..
@[go_sem ↓ high] theorem bd112_0 (w : World) (v0 : Option Nat) : (gBuild 112 #[(0, (.map v0))]).run Tryz.prog w = .ok (GBookBook.val ⟨v0⟩) w := by
  rw [GBookBook.val_eq]
  refine run_gBuild_of uu112 zr112 pl112 ?_ w
  show Instr.fill _ (GBookBook.enc default).toArray [(0, (.map v0))] = _
  rw [fs112_0]; rfl

/-! ### gavel/book.signed -/
structure GBookSigned where
  by_ : Int
  text : ByteArray
deriving DecidableEq
instance : Inhabited GBookSigned := ⟨⟨0, ByteArray.empty⟩⟩
def GBookSigned.enc (x : GBookSigned) : List Value := [(.int .i64 x.by_)] ++ ([(.string x.text)])
theorem GBookSigned.enc_len (x : GBookSigned) : x.enc.length = 2 := by simp [GBookSigned.enc]
theorem GBookSigned.enc_one (x : GBookSigned) : ∀ u ∈ x.enc, u.oneCell' = true := by
  intro u hu
  simp only [GBookSigned.enc, List.mem_append, List.mem_singleton] at hu
  rcases hu with hu | hu
  · subst hu; rfl
  · subst hu; rfl
theorem GBookSigned.enc_inj (x y : GBookSigned) (h : x.enc = y.enc) : x = y := by
  obtain ⟨a0, a1⟩ := x
  obtain ⟨b0, b1⟩ := y
  simp only [GBookSigned.enc] at h
  obtain ⟨p0, q0⟩ := List.append_inj h (rfl)
  have e0 : a0 = b0 := by have := List.head_eq_of_cons_eq p0; injection this
  have e1 : a1 = b1 := by have := List.head_eq_of_cons_eq q0; injection this
  rw [e0, e1]
instance : Enc GBookSigned where
  n := 2
  enc := GBookSigned.enc
  pos := by omega
  len := GBookSigned.enc_len
  one := GBookSigned.enc_one
  inj := GBookSigned.enc_inj
@[go_sem] theorem GBookSigned.n_eq : Enc.n GBookSigned = 2 := rfl
@[irreducible] def GBookSigned.val (x : GBookSigned) : Value := .agg x.enc.toArray
theorem GBookSigned.val_eq (x : GBookSigned) : GBookSigned.val x = .agg (Enc.enc x).toArray := by unfold GBookSigned.val; rfl
theorem GBookSigned.ext_all (x y : GBookSigned) : x = y ↔ x.by_ = y.by_ ∧ x.text = y.text := by
  constructor
  · intro h; cases h; simp
  · intro h; cases x; cases y; simp_all
theorem uu109 : Tryz.prog.underlying 109 = some (.struct (Tryz.prog.fieldsOf 109)) := by kernel_rfl
theorem st109 : Tryz.prog.stoodInHeld 109 = false := by kernel_rfl
theorem fl109 : fieldTO Tryz.prog 109 = [(3, 0), (9, 1)] := by kernel_rfl
theorem nb109 : noBlank Tryz.prog 109 = true := by kernel_rfl
@[go_sem ↓ high] theorem xl_GBookSigned (ρ : Operand → Value) (dst : Option Tmp) (x : Operand) (ty : TypeId) (pos : String) (after : Array Edge) (guard : Option (Nat × Bool)) : execOp ρ { dst, op := .load 109 x, type := ty, pos, after, guard } = (do pure (.value (← gLoad 109 (ρ x)))) := ex_load ..
@[go_sem ↓ high] theorem xs_GBookSigned (ρ : Operand → Value) (dst : Option Tmp) (x y : Operand) (ty : TypeId) (pos : String) (after : Array Edge) (guard : Option (Nat × Bool)) : execOp ρ { dst, op := .store 109 x y, type := ty, pos, after, guard } = (do gStore 109 (ρ x) (ρ y); pure .skip) := ex_store ..
@[go_sem ↓ high] theorem xa_GBookSigned (ρ : Operand → Value) (dst : Option Tmp) (ty : TypeId) (pos : String) (after : Array Edge) (guard : Option (Nat × Bool)) : execOp ρ { dst, op := .alloc 109, type := ty, pos, after, guard } = (do pure (.value (← gAlloc 109))) := ex_alloc ..
theorem ag109 : aggT Tryz.prog 109 = true := by kernel_rfl
theorem sz109 : sizeT Tryz.prog 109 = 2 := by kernel_rfl
section
variable (w : World)
@[go_sem ↓ high] theorem ld_GBookSigned (a : Addr) : (gLoad 109 (.pointer (some a))).run Tryz.prog w = ofOpt ((get? GBookSigned w a).map GBookSigned.val) w (noLoad Tryz.prog 109 a w) := by
  unfold gLoad; exact run_loadAt_opt ag109 sz109 GBookSigned.val GBookSigned.val_eq
@[go_sem ↓ high] theorem st_GBookSigned (a : Addr) (x : GBookSigned) : (gStore 109 (.pointer (some a)) (GBookSigned.val x)).run Tryz.prog w = okU' ((get? GBookSigned w a).isSome && blkFree w a.block) (World.putCells w a (GBookSigned.enc x)) (noStore Tryz.prog 109 (.pointer (some a)) (GBookSigned.val x) w) := run_gStore_any sz109 GBookSigned.val GBookSigned.val_eq w a x
end
theorem lk109_0 (x : GBookSigned) : x.enc[0]? = some (.int .i64 x.by_) := by
  simp [GBookSigned.enc, List.getElem?_append]
theorem pt109_0 (w : World) (x : GBookSigned) : (part 3 x.enc.toArray 0).run Tryz.prog w = .ok (.int .i64 x.by_) w := run_part_one na3 us3 (lk109_0 x)
theorem lk109_1 (x : GBookSigned) : x.enc[1]? = some (.string x.text) := by
  simp [GBookSigned.enc, List.getElem?_append]
theorem pt109_1 (w : World) (x : GBookSigned) : (part 9 x.enc.toArray 1).run Tryz.prog w = .ok (.string x.text) w := run_part_one na9 us9 (lk109_1 x)
theorem zr109 : zeroT Tryz.prog 109 = some (.agg (GBookSigned.enc default).toArray) := by kernel_rfl
@[go_sem ↓ high] theorem al_GBookSigned (w : World) : (gAlloc 109).run Tryz.prog w = .ok (.pointer (some ⟨w.heap.size, 0, none⟩)) (w.alloc (.cells (GBookSigned.enc default).toArray 109)) := run_zero_alloc zr109 w
@[go_sem] theorem pc_GBookSigned (w : World) (n : Nat) (x z : GBookSigned) (hn : n = w.heap.size) : World.putCells (w.alloc (.cells (GBookSigned.enc z).toArray 109)) ⟨n, 0, none⟩ (GBookSigned.enc x) = w.alloc (.cells (GBookSigned.enc x).toArray 109) := putCells_top x z hn
@[go_sem] theorem nw109 (w : World) (n : Nat) (x : GBookSigned) (hn : n = w.heap.size) : get? GBookSigned (w.alloc (.cells (GBookSigned.enc x).toArray 109)) ⟨n, 0, none⟩ = some x := by
  subst hn; exact get?_new 109 x
theorem pl109 : ((Tryz.prog.fieldsOf 109).toList.mapM fun f => (Tryz.prog.info? f.type).map fun i => (f.offset, i.size)) = some [(0, 1), (1, 1)] := by kernel_rfl
theorem fs109_0 (x : GBookSigned) (v : Int) (rest : List (Nat × Value)) : Instr.fill (fun i => ([(0, 1), (1, 1)] : List (Nat × Nat))[i]?) x.enc.toArray ((0, (.int .i64 v)) :: rest) = Instr.fill (fun i => ([(0, 1), (1, 1)] : List (Nat × Nat))[i]?) ({ x with by_ := v } : GBookSigned).enc.toArray rest := by
  have h := fill_seg [(0, 1), (1, 1)] 0 0 1 rfl (([] : List Value)) ([(.int .i64 x.by_)]) ([(.string x.text)] ++ (([] : List Value))) ([(.int .i64 v)]) (.int .i64 v) rest (rfl) (by simp) (by simp) (by simp)
  have e1 : x.enc = (([] : List Value)) ++ ([(.int .i64 x.by_)] ++ ([(.string x.text)] ++ (([] : List Value)))) := by simp only [GBookSigned.enc, List.nil_append, List.append_assoc, List.append_nil]
  have e2 : ({ x with by_ := v } : GBookSigned).enc = (([] : List Value)) ++ ([(.int .i64 v)] ++ ([(.string x.text)] ++ (([] : List Value)))) := by simp only [GBookSigned.enc, List.nil_append, List.append_assoc, List.append_nil]
  rw [e1, e2]; exact h
theorem fs109_1 (x : GBookSigned) (v : ByteArray) (rest : List (Nat × Value)) : Instr.fill (fun i => ([(0, 1), (1, 1)] : List (Nat × Nat))[i]?) x.enc.toArray ((1, (.string v)) :: rest) = Instr.fill (fun i => ([(0, 1), (1, 1)] : List (Nat × Nat))[i]?) ({ x with text := v } : GBookSigned).enc.toArray rest := by
  have h := fill_seg [(0, 1), (1, 1)] 1 1 1 rfl (([] : List Value) ++ ([(.int .i64 x.by_)])) ([(.string x.text)]) (([] : List Value)) ([(.string v)]) (.string v) rest (rfl) (by simp) (by simp) (by simp)
  have e1 : x.enc = (([] : List Value) ++ ([(.int .i64 x.by_)])) ++ ([(.string x.text)] ++ (([] : List Value))) := by simp only [GBookSigned.enc, List.nil_append, List.append_assoc, List.append_nil]
  have e2 : ({ x with text := v } : GBookSigned).enc = (([] : List Value) ++ ([(.int .i64 x.by_)])) ++ ([(.string v)] ++ (([] : List Value))) := by simp only [GBookSigned.enc, List.nil_append, List.append_assoc, List.append_nil]
  rw [e1, e2]; exact h
@[go_sem ↓ high] theorem xd_GBookSigned (ρ : Operand → Value) (dst : Option Tmp) (ps : Array (Nat × Operand)) (ty : TypeId) (pos : String) (after : Array Edge) (guard : Option (Nat × Bool)) : execOp ρ { dst, op := .build 109 ps, type := ty, pos, after, guard } = (do pure (.value (← gBuild 109 (ps.map fun (i, x) => (i, ρ x))))) := ex_build ..
@[go_sem ↓ high] theorem bd109_0 (w : World) (v0 : Int) (v1 : ByteArray) : (gBuild 109 #[(0, (.int .i64 v0)), (1, (.string v1))]).run Tryz.prog w = .ok (GBookSigned.val ⟨v0, v1⟩) w := by
  rw [GBookSigned.val_eq]
  refine run_gBuild_of uu109 zr109 pl109 ?_ w
  show Instr.fill _ (GBookSigned.enc default).toArray [(0, (.int .i64 v0)), (1, (.string v1))] = _
  rw [fs109_0, fs109_1]; rfl
theorem eq_GBookSigned (w : World) (d : Nat) (x y : GBookSigned) : (Op.equalIn (d + 2) 109 (GBookSigned.val x) (GBookSigned.val y)).run Tryz.prog w = .ok (decide (x = y)) w := by
  have q0 : ∀ a b, (Op.equalIn (d + 1) 3 (.int .i64 a) (.int .i64 b)).run Tryz.prog w = .ok (decide (a = b)) w := fun a b => by rw [run_equalIn_int w (d + 0) 3 .i64 .i64 a b uk3]; congr 1
  have q1 : ∀ a b, (Op.equalIn (d + 1) 9 (.string a) (.string b)).run Tryz.prog w = .ok (decide (a = b)) w := fun a b => by rw [run_equalIn_string w (d + 0) 9 a b uk9, bytes_beq]
  have h := run_equalIn_fields (d + 1) x.enc.toArray y.enc.toArray w uu109 st109 nb109
  rw [fl109] at h
  unfold GBookSigned.val
  refine h.trans ?_
  clear h
  simp only [eqFs, Sem.run_bind, pt109_0, pt109_1, q0, q1, Result.andThen_ok, Sem.run_ite, Sem.run_pure]
  have he : decide (x = y) = (decide (x.by_ = y.by_) && (decide (x.text = y.text))) := by
    rw [Bool.eq_iff_iff]; simp only [Bool.and_eq_true, decide_eq_true_eq]; exact GBookSigned.ext_all x y
  rw [he]
  generalize decide (x.by_ = y.by_) = c0; generalize decide (x.text = y.text) = c1
  cases c0 <;> cases c1 <;> simp
/-! ### gavel/stamp.Stamper -/
structure GStampStamper where
  c : GConf
  replica : Int
  now : Int
  floor : Int
  last : Int
  stamps : Option Nat
deriving DecidableEq
instance : Inhabited GStampStamper := ⟨⟨default, 0, 0, 0, 0, none⟩⟩
def GStampStamper.enc (x : GStampStamper) : List Value := x.c.enc ++ ([(.int .i64 x.replica)] ++ ([(.int .u64 x.now)] ++ ([(.int .u64 x.floor)] ++ ([(.int .u64 x.last)] ++ ([(.map x.stamps)])))))
theorem GStampStamper.enc_len (x : GStampStamper) : x.enc.length = 7 := by simp [GStampStamper.enc, GConf.enc_len]
theorem GStampStamper.enc_one (x : GStampStamper) : ∀ u ∈ x.enc, u.oneCell' = true := by
  intro u hu
  simp only [GStampStamper.enc, List.mem_append, List.mem_singleton] at hu
  rcases hu with hu | hu | hu | hu | hu | hu
  · exact Enc.one (α := GConf) _ _ hu
  · subst hu; rfl
  · subst hu; rfl
  · subst hu; rfl
  · subst hu; rfl
  · subst hu; rfl
theorem GStampStamper.enc_inj (x y : GStampStamper) (h : x.enc = y.enc) : x = y := by
  obtain ⟨a0, a1, a2, a3, a4, a5⟩ := x
  obtain ⟨b0, b1, b2, b3, b4, b5⟩ := y
  simp only [GStampStamper.enc] at h
  obtain ⟨p0, q0⟩ := List.append_inj h (by simp [GConf.enc_len])
  have e0 := Enc.inj (α := GConf) _ _ p0
  obtain ⟨p1, q1⟩ := List.append_inj q0 (rfl)
  have e1 : a1 = b1 := by have := List.head_eq_of_cons_eq p1; injection this
  obtain ⟨p2, q2⟩ := List.append_inj q1 (rfl)
  have e2 : a2 = b2 := by have := List.head_eq_of_cons_eq p2; injection this
  obtain ⟨p3, q3⟩ := List.append_inj q2 (rfl)
  have e3 : a3 = b3 := by have := List.head_eq_of_cons_eq p3; injection this
  obtain ⟨p4, q4⟩ := List.append_inj q3 (rfl)
  have e4 : a4 = b4 := by have := List.head_eq_of_cons_eq p4; injection this
  have e5 : a5 = b5 := by have := List.head_eq_of_cons_eq q4; injection this
  rw [e0, e1, e2, e3, e4, e5]
instance : Enc GStampStamper where
  n := 7
  enc := GStampStamper.enc
  pos := by omega
  len := GStampStamper.enc_len
  one := GStampStamper.enc_one
  inj := GStampStamper.enc_inj
@[go_sem] theorem GStampStamper.n_eq : Enc.n GStampStamper = 7 := rfl
@[irreducible] def GStampStamper.val (x : GStampStamper) : Value := .agg x.enc.toArray
theorem GStampStamper.val_eq (x : GStampStamper) : GStampStamper.val x = .agg (Enc.enc x).toArray := by unfold GStampStamper.val; rfl
theorem uu158 : Tryz.prog.underlying 158 = some (.struct (Tryz.prog.fieldsOf 158)) := by kernel_rfl
@[go_sem ↓ high] theorem xb_GStampStamper (ρ : Operand → Value) (dst : Option Tmp) (x : Operand) (ty : TypeId) (pos : String) (after : Array Edge) (guard : Option (Nat × Bool)) : execOp ρ { dst, op := .box 158 x, type := ty, pos, after, guard } = (do pure (.value (← gBox 158 (ρ x)))) := ex_box ..
section
variable (w : World)
@[go_sem ↓ high] theorem bx_GStampStamper (x : GStampStamper) : (gBox 158 (GStampStamper.val x)).run Tryz.prog w = .ok (.pointer (some ⟨w.heap.size, 0, none⟩)) (w.alloc (.cells (GStampStamper.enc x).toArray 158)) := by
  rw [GStampStamper.val_eq]; exact run_gBox _ w
end
theorem lk158_2 (x : GStampStamper) : x.enc[3]? = some (.int .u64 x.now) := by
  simp [GStampStamper.enc, List.getElem?_append, GConf.enc_len]
theorem lk158_3 (x : GStampStamper) : x.enc[4]? = some (.int .u64 x.floor) := by
  simp [GStampStamper.enc, List.getElem?_append, GConf.enc_len]
theorem zr158 : zeroT Tryz.prog 158 = some (.agg (GStampStamper.enc default).toArray) := by kernel_rfl
theorem GStampStamper.at_now {w : World} {a : Addr} {x : GStampStamper} (h : get? GStampStamper w a = some x) : w.cell? (a.add 3) = some (.int .u64 x.now) := (get?_iff.1 h) _ _ (lk158_2 x)
theorem GStampStamper.at_floor {w : World} {a : Addr} {x : GStampStamper} (h : get? GStampStamper w a = some x) : w.cell? (a.add 4) = some (.int .u64 x.floor) := (get?_iff.1 h) _ _ (lk158_3 x)
@[go_sem] theorem nw158 (w : World) (n : Nat) (x : GStampStamper) (hn : n = w.heap.size) : get? GStampStamper (w.alloc (.cells (GStampStamper.enc x).toArray 158)) ⟨n, 0, none⟩ = some x := by
  subst hn; exact get?_new 158 x
theorem pl158 : ((Tryz.prog.fieldsOf 158).toList.mapM fun f => (Tryz.prog.info? f.type).map fun i => (f.offset, i.size)) = some [(0, 2), (2, 1), (3, 1), (4, 1), (5, 1), (6, 1)] := by kernel_rfl
theorem fs158_0 (x : GStampStamper) (v : GConf) (rest : List (Nat × Value)) : Instr.fill (fun i => ([(0, 2), (2, 1), (3, 1), (4, 1), (5, 1), (6, 1)] : List (Nat × Nat))[i]?) x.enc.toArray ((0, (v.val)) :: rest) = Instr.fill (fun i => ([(0, 2), (2, 1), (3, 1), (4, 1), (5, 1), (6, 1)] : List (Nat × Nat))[i]?) ({ x with c := v } : GStampStamper).enc.toArray rest := by
  have h := fill_seg [(0, 2), (2, 1), (3, 1), (4, 1), (5, 1), (6, 1)] 0 0 2 rfl (([] : List Value)) (x.c.enc) ([(.int .i64 x.replica)] ++ ([(.int .u64 x.now)] ++ ([(.int .u64 x.floor)] ++ ([(.int .u64 x.last)] ++ ([(.map x.stamps)] ++ (([] : List Value))))))) (v.enc) (v.val) rest (by rw [GConf.val_eq]; rfl) (by simp [GConf.enc_len]) (by simp [GConf.enc_len]) (by simp [GConf.enc_len])
  have e1 : x.enc = (([] : List Value)) ++ (x.c.enc ++ ([(.int .i64 x.replica)] ++ ([(.int .u64 x.now)] ++ ([(.int .u64 x.floor)] ++ ([(.int .u64 x.last)] ++ ([(.map x.stamps)] ++ (([] : List Value)))))))) := by simp only [GStampStamper.enc, List.nil_append, List.append_assoc, List.append_nil]
  have e2 : ({ x with c := v } : GStampStamper).enc = (([] : List Value)) ++ (v.enc ++ ([(.int .i64 x.replica)] ++ ([(.int .u64 x.now)] ++ ([(.int .u64 x.floor)] ++ ([(.int .u64 x.last)] ++ ([(.map x.stamps)] ++ (([] : List Value)))))))) := by simp only [GStampStamper.enc, List.nil_append, List.append_assoc, List.append_nil]
  rw [e1, e2]; exact h
theorem fs158_1 (x : GStampStamper) (v : Int) (rest : List (Nat × Value)) : Instr.fill (fun i => ([(0, 2), (2, 1), (3, 1), (4, 1), (5, 1), (6, 1)] : List (Nat × Nat))[i]?) x.enc.toArray ((1, (.int .i64 v)) :: rest) = Instr.fill (fun i => ([(0, 2), (2, 1), (3, 1), (4, 1), (5, 1), (6, 1)] : List (Nat × Nat))[i]?) ({ x with replica := v } : GStampStamper).enc.toArray rest := by
  have h := fill_seg [(0, 2), (2, 1), (3, 1), (4, 1), (5, 1), (6, 1)] 1 2 1 rfl (([] : List Value) ++ (x.c.enc)) ([(.int .i64 x.replica)]) ([(.int .u64 x.now)] ++ ([(.int .u64 x.floor)] ++ ([(.int .u64 x.last)] ++ ([(.map x.stamps)] ++ (([] : List Value)))))) ([(.int .i64 v)]) (.int .i64 v) rest (rfl) (by simp [GConf.enc_len]) (by simp [GConf.enc_len]) (by simp [GConf.enc_len])
  have e1 : x.enc = (([] : List Value) ++ (x.c.enc)) ++ ([(.int .i64 x.replica)] ++ ([(.int .u64 x.now)] ++ ([(.int .u64 x.floor)] ++ ([(.int .u64 x.last)] ++ ([(.map x.stamps)] ++ (([] : List Value))))))) := by simp only [GStampStamper.enc, List.nil_append, List.append_assoc, List.append_nil]
  have e2 : ({ x with replica := v } : GStampStamper).enc = (([] : List Value) ++ (x.c.enc)) ++ ([(.int .i64 v)] ++ ([(.int .u64 x.now)] ++ ([(.int .u64 x.floor)] ++ ([(.int .u64 x.last)] ++ ([(.map x.stamps)] ++ (([] : List Value))))))) := by simp only [GStampStamper.enc, List.nil_append, List.append_assoc, List.append_nil]
  rw [e1, e2]; exact h
theorem fs158_5 (x : GStampStamper) (v : Option Nat) (rest : List (Nat × Value)) : Instr.fill (fun i => ([(0, 2), (2, 1), (3, 1), (4, 1), (5, 1), (6, 1)] : List (Nat × Nat))[i]?) x.enc.toArray ((5, (.map v)) :: rest) = Instr.fill (fun i => ([(0, 2), (2, 1), (3, 1), (4, 1), (5, 1), (6, 1)] : List (Nat × Nat))[i]?) ({ x with stamps := v } : GStampStamper).enc.toArray rest := by
  have h := fill_seg [(0, 2), (2, 1), (3, 1), (4, 1), (5, 1), (6, 1)] 5 6 1 rfl (([] : List Value) ++ (x.c.enc ++ ([(.int .i64 x.replica)] ++ ([(.int .u64 x.now)] ++ ([(.int .u64 x.floor)] ++ ([(.int .u64 x.last)])))))) ([(.map x.stamps)]) (([] : List Value)) ([(.map v)]) (.map v) rest (rfl) (by simp [GConf.enc_len]) (by simp [GConf.enc_len]) (by simp [GConf.enc_len])
  have e1 : x.enc = (([] : List Value) ++ (x.c.enc ++ ([(.int .i64 x.replica)] ++ ([(.int .u64 x.now)] ++ ([(.int .u64 x.floor)] ++ ([(.int .u64 x.last)])))))) ++ ([(.map x.stamps)] ++ (([] : List Value))) := by simp only [GStampStamper.enc, List.nil_append, List.append_assoc, List.append_nil]
  have e2 : ({ x with stamps := v } : GStampStamper).enc = (([] : List Value) ++ (x.c.enc ++ ([(.int .i64 x.replica)] ++ ([(.int .u64 x.now)] ++ ([(.int .u64 x.floor)] ++ ([(.int .u64 x.last)])))))) ++ ([(.map v)] ++ (([] : List Value))) := by simp only [GStampStamper.enc, List.nil_append, List.append_assoc, List.append_nil]
  rw [e1, e2]; exact h
@[go_sem ↓ high] theorem xd_GStampStamper (ρ : Operand → Value) (dst : Option Tmp) (ps : Array (Nat × Operand)) (ty : TypeId) (pos : String) (after : Array Edge) (guard : Option (Nat × Bool)) : execOp ρ { dst, op := .build 158 ps, type := ty, pos, after, guard } = (do pure (.value (← gBuild 158 (ps.map fun (i, x) => (i, ρ x))))) := ex_build ..
@[go_sem ↓ high] theorem bd158_0 (w : World) (v0 : GConf) (v1 : Int) (v5 : Option Nat) : (gBuild 158 #[(0, (v0.val)), (1, (.int .i64 v1)), (5, (.map v5))]).run Tryz.prog w = .ok (GStampStamper.val ⟨v0, v1, 0, 0, 0, v5⟩) w := by
  rw [GStampStamper.val_eq]
  refine run_gBuild_of uu158 zr158 pl158 ?_ w
  show Instr.fill _ (GStampStamper.enc default).toArray [(0, (v0.val)), (1, (.int .i64 v1)), (5, (.map v5))] = _
  rw [fs158_0, fs158_1, fs158_5]; rfl

/-! ### gavel/lock.Table -/
structure GLockTable where
  c : GConf
  replica : Int
  held : Option Nat
deriving DecidableEq
instance : Inhabited GLockTable := ⟨⟨default, 0, none⟩⟩
def GLockTable.enc (x : GLockTable) : List Value := x.c.enc ++ ([(.int .i64 x.replica)] ++ ([(.map x.held)]))
theorem GLockTable.enc_len (x : GLockTable) : x.enc.length = 4 := by simp [GLockTable.enc, GConf.enc_len]
theorem GLockTable.enc_one (x : GLockTable) : ∀ u ∈ x.enc, u.oneCell' = true := by
  intro u hu
  simp only [GLockTable.enc, List.mem_append, List.mem_singleton] at hu
  rcases hu with hu | hu | hu
  · exact Enc.one (α := GConf) _ _ hu
  · subst hu; rfl
  · subst hu; rfl
theorem GLockTable.enc_inj (x y : GLockTable) (h : x.enc = y.enc) : x = y := by
  obtain ⟨a0, a1, a2⟩ := x
  obtain ⟨b0, b1, b2⟩ := y
  simp only [GLockTable.enc] at h
  obtain ⟨p0, q0⟩ := List.append_inj h (by simp [GConf.enc_len])
  have e0 := Enc.inj (α := GConf) _ _ p0
  obtain ⟨p1, q1⟩ := List.append_inj q0 (rfl)
  have e1 : a1 = b1 := by have := List.head_eq_of_cons_eq p1; injection this
  have e2 : a2 = b2 := by have := List.head_eq_of_cons_eq q1; injection this
  rw [e0, e1, e2]
instance : Enc GLockTable where
  n := 4
  enc := GLockTable.enc
  pos := by omega
  len := GLockTable.enc_len
  one := GLockTable.enc_one
  inj := GLockTable.enc_inj
@[go_sem] theorem GLockTable.n_eq : Enc.n GLockTable = 4 := rfl
@[irreducible] def GLockTable.val (x : GLockTable) : Value := .agg x.enc.toArray
theorem GLockTable.val_eq (x : GLockTable) : GLockTable.val x = .agg (Enc.enc x).toArray := by unfold GLockTable.val; rfl
theorem uu175 : Tryz.prog.underlying 175 = some (.struct (Tryz.prog.fieldsOf 175)) := by kernel_rfl
@[go_sem ↓ high] theorem xb_GLockTable (ρ : Operand → Value) (dst : Option Tmp) (x : Operand) (ty : TypeId) (pos : String) (after : Array Edge) (guard : Option (Nat × Bool)) : execOp ρ { dst, op := .box 175 x, type := ty, pos, after, guard } = (do pure (.value (← gBox 175 (ρ x)))) := ex_box ..
section
variable (w : World)
@[go_sem ↓ high] theorem bx_GLockTable (x : GLockTable) : (gBox 175 (GLockTable.val x)).run Tryz.prog w = .ok (.pointer (some ⟨w.heap.size, 0, none⟩)) (w.alloc (.cells (GLockTable.enc x).toArray 175)) := by
  rw [GLockTable.val_eq]; exact run_gBox _ w
end
theorem lk175_1 (x : GLockTable) : x.enc[2]? = some (.int .i64 x.replica) := by
  simp [GLockTable.enc, List.getElem?_append, GConf.enc_len]
theorem lk175_2 (x : GLockTable) : x.enc[3]? = some (.map x.held) := by
  simp [GLockTable.enc, List.getElem?_append, GConf.enc_len]
theorem zr175 : zeroT Tryz.prog 175 = some (.agg (GLockTable.enc default).toArray) := by kernel_rfl
theorem GLockTable.at_replica {w : World} {a : Addr} {x : GLockTable} (h : get? GLockTable w a = some x) : w.cell? (a.add 2) = some (.int .i64 x.replica) := (get?_iff.1 h) _ _ (lk175_1 x)
theorem GLockTable.at_held {w : World} {a : Addr} {x : GLockTable} (h : get? GLockTable w a = some x) : w.cell? (a.add 3) = some (.map x.held) := (get?_iff.1 h) _ _ (lk175_2 x)
@[go_sem] theorem nw175 (w : World) (n : Nat) (x : GLockTable) (hn : n = w.heap.size) : get? GLockTable (w.alloc (.cells (GLockTable.enc x).toArray 175)) ⟨n, 0, none⟩ = some x := by
  subst hn; exact get?_new 175 x
theorem pl175 : ((Tryz.prog.fieldsOf 175).toList.mapM fun f => (Tryz.prog.info? f.type).map fun i => (f.offset, i.size)) = some [(0, 2), (2, 1), (3, 1)] := by kernel_rfl
theorem fs175_0 (x : GLockTable) (v : GConf) (rest : List (Nat × Value)) : Instr.fill (fun i => ([(0, 2), (2, 1), (3, 1)] : List (Nat × Nat))[i]?) x.enc.toArray ((0, (v.val)) :: rest) = Instr.fill (fun i => ([(0, 2), (2, 1), (3, 1)] : List (Nat × Nat))[i]?) ({ x with c := v } : GLockTable).enc.toArray rest := by
  have h := fill_seg [(0, 2), (2, 1), (3, 1)] 0 0 2 rfl (([] : List Value)) (x.c.enc) ([(.int .i64 x.replica)] ++ ([(.map x.held)] ++ (([] : List Value)))) (v.enc) (v.val) rest (by rw [GConf.val_eq]; rfl) (by simp [GConf.enc_len]) (by simp [GConf.enc_len]) (by simp [GConf.enc_len])
  have e1 : x.enc = (([] : List Value)) ++ (x.c.enc ++ ([(.int .i64 x.replica)] ++ ([(.map x.held)] ++ (([] : List Value))))) := by simp only [GLockTable.enc, List.nil_append, List.append_assoc, List.append_nil]
  have e2 : ({ x with c := v } : GLockTable).enc = (([] : List Value)) ++ (v.enc ++ ([(.int .i64 x.replica)] ++ ([(.map x.held)] ++ (([] : List Value))))) := by simp only [GLockTable.enc, List.nil_append, List.append_assoc, List.append_nil]
  rw [e1, e2]; exact h
theorem fs175_1 (x : GLockTable) (v : Int) (rest : List (Nat × Value)) : Instr.fill (fun i => ([(0, 2), (2, 1), (3, 1)] : List (Nat × Nat))[i]?) x.enc.toArray ((1, (.int .i64 v)) :: rest) = Instr.fill (fun i => ([(0, 2), (2, 1), (3, 1)] : List (Nat × Nat))[i]?) ({ x with replica := v } : GLockTable).enc.toArray rest := by
  have h := fill_seg [(0, 2), (2, 1), (3, 1)] 1 2 1 rfl (([] : List Value) ++ (x.c.enc)) ([(.int .i64 x.replica)]) ([(.map x.held)] ++ (([] : List Value))) ([(.int .i64 v)]) (.int .i64 v) rest (rfl) (by simp [GConf.enc_len]) (by simp [GConf.enc_len]) (by simp [GConf.enc_len])
  have e1 : x.enc = (([] : List Value) ++ (x.c.enc)) ++ ([(.int .i64 x.replica)] ++ ([(.map x.held)] ++ (([] : List Value)))) := by simp only [GLockTable.enc, List.nil_append, List.append_assoc, List.append_nil]
  have e2 : ({ x with replica := v } : GLockTable).enc = (([] : List Value) ++ (x.c.enc)) ++ ([(.int .i64 v)] ++ ([(.map x.held)] ++ (([] : List Value)))) := by simp only [GLockTable.enc, List.nil_append, List.append_assoc, List.append_nil]
  rw [e1, e2]; exact h
theorem fs175_2 (x : GLockTable) (v : Option Nat) (rest : List (Nat × Value)) : Instr.fill (fun i => ([(0, 2), (2, 1), (3, 1)] : List (Nat × Nat))[i]?) x.enc.toArray ((2, (.map v)) :: rest) = Instr.fill (fun i => ([(0, 2), (2, 1), (3, 1)] : List (Nat × Nat))[i]?) ({ x with held := v } : GLockTable).enc.toArray rest := by
  have h := fill_seg [(0, 2), (2, 1), (3, 1)] 2 3 1 rfl (([] : List Value) ++ (x.c.enc ++ ([(.int .i64 x.replica)]))) ([(.map x.held)]) (([] : List Value)) ([(.map v)]) (.map v) rest (rfl) (by simp [GConf.enc_len]) (by simp [GConf.enc_len]) (by simp [GConf.enc_len])
  have e1 : x.enc = (([] : List Value) ++ (x.c.enc ++ ([(.int .i64 x.replica)]))) ++ ([(.map x.held)] ++ (([] : List Value))) := by simp only [GLockTable.enc, List.nil_append, List.append_assoc, List.append_nil]
  have e2 : ({ x with held := v } : GLockTable).enc = (([] : List Value) ++ (x.c.enc ++ ([(.int .i64 x.replica)]))) ++ ([(.map v)] ++ (([] : List Value))) := by simp only [GLockTable.enc, List.nil_append, List.append_assoc, List.append_nil]
  rw [e1, e2]; exact h
@[go_sem ↓ high] theorem xd_GLockTable (ρ : Operand → Value) (dst : Option Tmp) (ps : Array (Nat × Operand)) (ty : TypeId) (pos : String) (after : Array Edge) (guard : Option (Nat × Bool)) : execOp ρ { dst, op := .build 175 ps, type := ty, pos, after, guard } = (do pure (.value (← gBuild 175 (ps.map fun (i, x) => (i, ρ x))))) := ex_build ..
@[go_sem ↓ high] theorem bd175_0 (w : World) (v0 : GConf) (v1 : Int) (v2 : Option Nat) : (gBuild 175 #[(0, (v0.val)), (1, (.int .i64 v1)), (2, (.map v2))]).run Tryz.prog w = .ok (GLockTable.val ⟨v0, v1, v2⟩) w := by
  rw [GLockTable.val_eq]
  refine run_gBuild_of uu175 zr175 pl175 ?_ w
  show Instr.fill _ (GLockTable.enc default).toArray [(0, (v0.val)), (1, (.int .i64 v1)), (2, (.map v2))] = _
  rw [fs175_0, fs175_1, fs175_2]; rfl

/-! ### gavel/reveal.Reveal -/
structure GRevealReveal where
  c : GConf
  replica : Int
  m : Option Nat
deriving DecidableEq
instance : Inhabited GRevealReveal := ⟨⟨default, 0, none⟩⟩
def GRevealReveal.enc (x : GRevealReveal) : List Value := x.c.enc ++ ([(.int .i64 x.replica)] ++ ([(.map x.m)]))
theorem GRevealReveal.enc_len (x : GRevealReveal) : x.enc.length = 4 := by simp [GRevealReveal.enc, GConf.enc_len]
theorem GRevealReveal.enc_one (x : GRevealReveal) : ∀ u ∈ x.enc, u.oneCell' = true := by
  intro u hu
  simp only [GRevealReveal.enc, List.mem_append, List.mem_singleton] at hu
  rcases hu with hu | hu | hu
  · exact Enc.one (α := GConf) _ _ hu
  · subst hu; rfl
  · subst hu; rfl
theorem GRevealReveal.enc_inj (x y : GRevealReveal) (h : x.enc = y.enc) : x = y := by
  obtain ⟨a0, a1, a2⟩ := x
  obtain ⟨b0, b1, b2⟩ := y
  simp only [GRevealReveal.enc] at h
  obtain ⟨p0, q0⟩ := List.append_inj h (by simp [GConf.enc_len])
  have e0 := Enc.inj (α := GConf) _ _ p0
  obtain ⟨p1, q1⟩ := List.append_inj q0 (rfl)
  have e1 : a1 = b1 := by have := List.head_eq_of_cons_eq p1; injection this
  have e2 : a2 = b2 := by have := List.head_eq_of_cons_eq q1; injection this
  rw [e0, e1, e2]
instance : Enc GRevealReveal where
  n := 4
  enc := GRevealReveal.enc
  pos := by omega
  len := GRevealReveal.enc_len
  one := GRevealReveal.enc_one
  inj := GRevealReveal.enc_inj
@[go_sem] theorem GRevealReveal.n_eq : Enc.n GRevealReveal = 4 := rfl
@[irreducible] def GRevealReveal.val (x : GRevealReveal) : Value := .agg x.enc.toArray
theorem GRevealReveal.val_eq (x : GRevealReveal) : GRevealReveal.val x = .agg (Enc.enc x).toArray := by unfold GRevealReveal.val; rfl
theorem uu178 : Tryz.prog.underlying 178 = some (.struct (Tryz.prog.fieldsOf 178)) := by kernel_rfl
@[go_sem ↓ high] theorem xb_GRevealReveal (ρ : Operand → Value) (dst : Option Tmp) (x : Operand) (ty : TypeId) (pos : String) (after : Array Edge) (guard : Option (Nat × Bool)) : execOp ρ { dst, op := .box 178 x, type := ty, pos, after, guard } = (do pure (.value (← gBox 178 (ρ x)))) := ex_box ..
section
variable (w : World)
@[go_sem ↓ high] theorem bx_GRevealReveal (x : GRevealReveal) : (gBox 178 (GRevealReveal.val x)).run Tryz.prog w = .ok (.pointer (some ⟨w.heap.size, 0, none⟩)) (w.alloc (.cells (GRevealReveal.enc x).toArray 178)) := by
  rw [GRevealReveal.val_eq]; exact run_gBox _ w
end
theorem lk178_2 (x : GRevealReveal) : x.enc[3]? = some (.map x.m) := by
  simp [GRevealReveal.enc, List.getElem?_append, GConf.enc_len]
theorem zr178 : zeroT Tryz.prog 178 = some (.agg (GRevealReveal.enc default).toArray) := by kernel_rfl
theorem GRevealReveal.at_m {w : World} {a : Addr} {x : GRevealReveal} (h : get? GRevealReveal w a = some x) : w.cell? (a.add 3) = some (.map x.m) := (get?_iff.1 h) _ _ (lk178_2 x)
@[go_sem] theorem nw178 (w : World) (n : Nat) (x : GRevealReveal) (hn : n = w.heap.size) : get? GRevealReveal (w.alloc (.cells (GRevealReveal.enc x).toArray 178)) ⟨n, 0, none⟩ = some x := by
  subst hn; exact get?_new 178 x
theorem pl178 : ((Tryz.prog.fieldsOf 178).toList.mapM fun f => (Tryz.prog.info? f.type).map fun i => (f.offset, i.size)) = some [(0, 2), (2, 1), (3, 1)] := by kernel_rfl
theorem fs178_0 (x : GRevealReveal) (v : GConf) (rest : List (Nat × Value)) : Instr.fill (fun i => ([(0, 2), (2, 1), (3, 1)] : List (Nat × Nat))[i]?) x.enc.toArray ((0, (v.val)) :: rest) = Instr.fill (fun i => ([(0, 2), (2, 1), (3, 1)] : List (Nat × Nat))[i]?) ({ x with c := v } : GRevealReveal).enc.toArray rest := by
  have h := fill_seg [(0, 2), (2, 1), (3, 1)] 0 0 2 rfl (([] : List Value)) (x.c.enc) ([(.int .i64 x.replica)] ++ ([(.map x.m)] ++ (([] : List Value)))) (v.enc) (v.val) rest (by rw [GConf.val_eq]; rfl) (by simp [GConf.enc_len]) (by simp [GConf.enc_len]) (by simp [GConf.enc_len])
  have e1 : x.enc = (([] : List Value)) ++ (x.c.enc ++ ([(.int .i64 x.replica)] ++ ([(.map x.m)] ++ (([] : List Value))))) := by simp only [GRevealReveal.enc, List.nil_append, List.append_assoc, List.append_nil]
  have e2 : ({ x with c := v } : GRevealReveal).enc = (([] : List Value)) ++ (v.enc ++ ([(.int .i64 x.replica)] ++ ([(.map x.m)] ++ (([] : List Value))))) := by simp only [GRevealReveal.enc, List.nil_append, List.append_assoc, List.append_nil]
  rw [e1, e2]; exact h
theorem fs178_1 (x : GRevealReveal) (v : Int) (rest : List (Nat × Value)) : Instr.fill (fun i => ([(0, 2), (2, 1), (3, 1)] : List (Nat × Nat))[i]?) x.enc.toArray ((1, (.int .i64 v)) :: rest) = Instr.fill (fun i => ([(0, 2), (2, 1), (3, 1)] : List (Nat × Nat))[i]?) ({ x with replica := v } : GRevealReveal).enc.toArray rest := by
  have h := fill_seg [(0, 2), (2, 1), (3, 1)] 1 2 1 rfl (([] : List Value) ++ (x.c.enc)) ([(.int .i64 x.replica)]) ([(.map x.m)] ++ (([] : List Value))) ([(.int .i64 v)]) (.int .i64 v) rest (rfl) (by simp [GConf.enc_len]) (by simp [GConf.enc_len]) (by simp [GConf.enc_len])
  have e1 : x.enc = (([] : List Value) ++ (x.c.enc)) ++ ([(.int .i64 x.replica)] ++ ([(.map x.m)] ++ (([] : List Value)))) := by simp only [GRevealReveal.enc, List.nil_append, List.append_assoc, List.append_nil]
  have e2 : ({ x with replica := v } : GRevealReveal).enc = (([] : List Value) ++ (x.c.enc)) ++ ([(.int .i64 v)] ++ ([(.map x.m)] ++ (([] : List Value)))) := by simp only [GRevealReveal.enc, List.nil_append, List.append_assoc, List.append_nil]
  rw [e1, e2]; exact h
theorem fs178_2 (x : GRevealReveal) (v : Option Nat) (rest : List (Nat × Value)) : Instr.fill (fun i => ([(0, 2), (2, 1), (3, 1)] : List (Nat × Nat))[i]?) x.enc.toArray ((2, (.map v)) :: rest) = Instr.fill (fun i => ([(0, 2), (2, 1), (3, 1)] : List (Nat × Nat))[i]?) ({ x with m := v } : GRevealReveal).enc.toArray rest := by
  have h := fill_seg [(0, 2), (2, 1), (3, 1)] 2 3 1 rfl (([] : List Value) ++ (x.c.enc ++ ([(.int .i64 x.replica)]))) ([(.map x.m)]) (([] : List Value)) ([(.map v)]) (.map v) rest (rfl) (by simp [GConf.enc_len]) (by simp [GConf.enc_len]) (by simp [GConf.enc_len])
  have e1 : x.enc = (([] : List Value) ++ (x.c.enc ++ ([(.int .i64 x.replica)]))) ++ ([(.map x.m)] ++ (([] : List Value))) := by simp only [GRevealReveal.enc, List.nil_append, List.append_assoc, List.append_nil]
  have e2 : ({ x with m := v } : GRevealReveal).enc = (([] : List Value) ++ (x.c.enc ++ ([(.int .i64 x.replica)]))) ++ ([(.map v)] ++ (([] : List Value))) := by simp only [GRevealReveal.enc, List.nil_append, List.append_assoc, List.append_nil]
  rw [e1, e2]; exact h
@[go_sem ↓ high] theorem xd_GRevealReveal (ρ : Operand → Value) (dst : Option Tmp) (ps : Array (Nat × Operand)) (ty : TypeId) (pos : String) (after : Array Edge) (guard : Option (Nat × Bool)) : execOp ρ { dst, op := .build 178 ps, type := ty, pos, after, guard } = (do pure (.value (← gBuild 178 (ps.map fun (i, x) => (i, ρ x))))) := ex_build ..
@[go_sem ↓ high] theorem bd178_0 (w : World) (v0 : GConf) (v1 : Int) (v2 : Option Nat) : (gBuild 178 #[(0, (v0.val)), (1, (.int .i64 v1)), (2, (.map v2))]).run Tryz.prog w = .ok (GRevealReveal.val ⟨v0, v1, v2⟩) w := by
  rw [GRevealReveal.val_eq]
  refine run_gBuild_of uu178 zr178 pl178 ?_ w
  show Instr.fill _ (GRevealReveal.enc default).toArray [(0, (v0.val)), (1, (.int .i64 v1)), (2, (.map v2))] = _
  rw [fs178_0, fs178_1, fs178_2]; rfl

/-! ### gavel/reveal.place -/
structure GRevealPlace where
  e : GEntry
  since : Int
  opening : GOpening
  acked : Bool
  denied : Bool
  denies : Option Nat
deriving DecidableEq
instance : Inhabited GRevealPlace := ⟨⟨default, 0, default, false, false, none⟩⟩
def GRevealPlace.enc (x : GRevealPlace) : List Value := x.e.enc ++ ([(.int .u64 x.since)] ++ (x.opening.enc ++ ([(.bool x.acked)] ++ ([(.bool x.denied)] ++ ([(.map x.denies)])))))
theorem GRevealPlace.enc_len (x : GRevealPlace) : x.enc.length = 73 := by simp [GRevealPlace.enc, GEntry.enc_len, GOpening.enc_len]
theorem GRevealPlace.enc_one (x : GRevealPlace) : ∀ u ∈ x.enc, u.oneCell' = true := by
  intro u hu
  simp only [GRevealPlace.enc, List.mem_append, List.mem_singleton] at hu
  rcases hu with hu | hu | hu | hu | hu | hu
  · exact Enc.one (α := GEntry) _ _ hu
  · subst hu; rfl
  · exact Enc.one (α := GOpening) _ _ hu
  · subst hu; rfl
  · subst hu; rfl
  · subst hu; rfl
theorem GRevealPlace.enc_inj (x y : GRevealPlace) (h : x.enc = y.enc) : x = y := by
  obtain ⟨a0, a1, a2, a3, a4, a5⟩ := x
  obtain ⟨b0, b1, b2, b3, b4, b5⟩ := y
  simp only [GRevealPlace.enc] at h
  obtain ⟨p0, q0⟩ := List.append_inj h (by simp [GEntry.enc_len])
  have e0 := Enc.inj (α := GEntry) _ _ p0
  obtain ⟨p1, q1⟩ := List.append_inj q0 (rfl)
  have e1 : a1 = b1 := by have := List.head_eq_of_cons_eq p1; injection this
  obtain ⟨p2, q2⟩ := List.append_inj q1 (by simp [GOpening.enc_len])
  have e2 := Enc.inj (α := GOpening) _ _ p2
  obtain ⟨p3, q3⟩ := List.append_inj q2 (rfl)
  have e3 : a3 = b3 := by have := List.head_eq_of_cons_eq p3; injection this
  obtain ⟨p4, q4⟩ := List.append_inj q3 (rfl)
  have e4 : a4 = b4 := by have := List.head_eq_of_cons_eq p4; injection this
  have e5 : a5 = b5 := by have := List.head_eq_of_cons_eq q4; injection this
  rw [e0, e1, e2, e3, e4, e5]
instance : Enc GRevealPlace where
  n := 73
  enc := GRevealPlace.enc
  pos := by omega
  len := GRevealPlace.enc_len
  one := GRevealPlace.enc_one
  inj := GRevealPlace.enc_inj
@[go_sem] theorem GRevealPlace.n_eq : Enc.n GRevealPlace = 73 := rfl
@[irreducible] def GRevealPlace.val (x : GRevealPlace) : Value := .agg x.enc.toArray
theorem GRevealPlace.val_eq (x : GRevealPlace) : GRevealPlace.val x = .agg (Enc.enc x).toArray := by unfold GRevealPlace.val; rfl
section
variable (w : World)
end
/-! ### []api.Deny -/
instance : KEnc GBookSigned := ⟨GBookSigned.val, fun a b h => by rw [GBookSigned.val_eq, GBookSigned.val_eq] at h; injection h with h; exact Enc.inj _ _ (by simpa using congrArg Array.toList h)⟩
theorem kl109 : KeyLaws Tryz.prog 109 GBookSigned where
  chk := fun e k w => by
    show (Instr.checkKey e 10000 109 (GBookSigned.val k)).run Tryz.prog w = _
    rw [GBookSigned.val_eq]
    rw [run_checkKey_struct e 9999 _ w uu109 nb109, fl109]
    show (chkFs e 9999 k.enc.toArray _).run Tryz.prog w = _
    simp only [chkFs, Sem.run_bind, pt109_0, pt109_1, Result.andThen_ok, run_checkKey_one e 9998 uk3, run_checkKey_str e 9998 uk9, Sem.run_pure]
  fnd := fnd_struct (fun k k' w => eq_GBookSigned w 9998 k k') uu109 (fun k k' => by show Instr.sameNow _ (GBookSigned.val k) (GBookSigned.val k') = none; rw [GBookSigned.val_eq, GBookSigned.val_eq]; rfl)
  same := fun k => by
    show Instr.sameBits 10000 (GBookSigned.val k) (GBookSigned.val k) = true
    rw [GBookSigned.val_eq]
    exact sameBits_cells 9999 _ (Enc.one k) (fun u hu => by
      have hu' : u ∈ k.enc := hu
      unfold GBookSigned.enc at hu'
      simp only [List.mem_append, List.mem_singleton] at hu'
      rcases hu' with hu' | hu'
      · subst hu'; exact sameBits_int _ _ _
      · subst hu'; exact sameBits_str _ _)

/-! ### map[book.signed]int -/
theorem um110 : Tryz.prog.underlying 110 = some (.map 109 3) := by kernel_rfl
theorem zv110_3 : zeroT Tryz.prog 3 = some (VEnc.vv (0 : Int)) := by kernel_rfl
@[go_sem ↓ high] theorem xk_110 (ρ : Operand → Value) (dst : Option Tmp) (x y : Operand) (ok : Bool) (ty : TypeId) (pos : String) (after : Array Edge) (guard : Option (Nat × Bool)) : execOp ρ { dst, op := .lookup 110 x y ok, type := ty, pos, after, guard } = (do pure (.value (← gLookup 110 (ρ x) (ρ y) ok))) := ex_lookup ..
@[go_sem ↓ high] theorem xu_110 (ρ : Operand → Value) (dst : Option Tmp) (x y z : Operand) (ty : TypeId) (pos : String) (after : Array Edge) (guard : Option (Nat × Bool)) : execOp ρ { dst, op := .mapUpdate 110 x y z, type := ty, pos, after, guard } = (do gMapUpdate 110 (ρ x) (ρ y) (ρ z); pure .skip) := ex_mapUpdate ..
@[go_sem ↓ high] theorem lk_110 (w : World) (r : Nat) (k : GBookSigned) : (gLookup 110 (.map (some r)) (GBookSigned.val k) false).run Tryz.prog w = ofOpt ((mapAt GBookSigned Int w r).map fun m => (.int .i64 ((mget m k).getD 0))) w (noLookup Tryz.prog 110 (.map (some r)) (GBookSigned.val k) false w) :=
  run_gLookup kl109 um110 zv110_3 w r k
@[go_sem ↓ high] theorem mu_110 (w : World) (r : Nat) (k : GBookSigned) (v : Int) : (gMapUpdate 110 (.map (some r)) (GBookSigned.val k) (.int .i64 v)).run Tryz.prog w = okU ((mapAt GBookSigned Int w r).isSome) (mput Tryz.prog 110 w r k v) (noUpdate Tryz.prog 110 (.map (some r)) (GBookSigned.val k) (.int .i64 v) w) :=
  run_gMapUpdate kl109 um110 w r k v
instance : VEnc GStamp := ⟨GStamp.val, fun a b h => by rw [GStamp.val_eq, GStamp.val_eq] at h; injection h with h; exact Enc.inj _ _ (by simpa using congrArg Array.toList h)⟩

/-! ### map[api.Name]api.Stamp -/
instance : VEnc GCert := ⟨GCert.val, fun a b h => by rw [GCert.val_eq, GCert.val_eq] at h; injection h with h; exact Enc.inj _ _ (by simpa using congrArg Array.toList h)⟩

/-! ### map[api.Name]api.Cert -/
theorem um173 : Tryz.prog.underlying 173 = some (.map 33 44) := by kernel_rfl
theorem kl3 : KeyLaws Tryz.prog 3 Int := keyLaws_int uk3
instance : VEnc GRevealPlace := ⟨GRevealPlace.val, fun a b h => by rw [GRevealPlace.val_eq, GRevealPlace.val_eq] at h; injection h with h; exact Enc.inj _ _ (by simpa using congrArg Array.toList h)⟩

/-! ### map[int]reveal.place -/
theorem um176 : Tryz.prog.underlying 176 = some (.map 3 208) := by kernel_rfl
end Go.Proofs.YtfhhcgldikmejaaGreatDoor
/- The struct types of this seat as Lean types, with the runs of single operations over them. Conditions: those named in each theorem. -/
namespace Go.Proofs.YtfhhcgldikmejaaGreatDoor
open Go Go.RowKit Go.Gv
set_option linter.unusedSimpArgs false

/-! ### gavel/tally.Tally -/
structure GTallyTally where
  c : GConf
  have_ : Option Nat
  count : Option Nat
  all : Option Nat
  last : Option Nat
deriving DecidableEq
instance : Inhabited GTallyTally := ⟨⟨default, none, none, none, none⟩⟩
def GTallyTally.enc (x : GTallyTally) : List Value := x.c.enc ++ ([(.map x.have_)] ++ ([(.map x.count)] ++ ([(.map x.all)] ++ ([(.map x.last)]))))
theorem GTallyTally.enc_len (x : GTallyTally) : x.enc.length = 6 := by simp [GTallyTally.enc, GConf.enc_len]
theorem GTallyTally.enc_one (x : GTallyTally) : ∀ u ∈ x.enc, u.oneCell' = true := by
  intro u hu
  simp only [GTallyTally.enc, List.mem_append, List.mem_singleton] at hu
  rcases hu with hu | hu | hu | hu | hu
  · exact Enc.one (α := GConf) _ _ hu
  · subst hu; rfl
  · subst hu; rfl
  · subst hu; rfl
  · subst hu; rfl
theorem GTallyTally.enc_inj (x y : GTallyTally) (h : x.enc = y.enc) : x = y := by
  obtain ⟨a0, a1, a2, a3, a4⟩ := x
  obtain ⟨b0, b1, b2, b3, b4⟩ := y
  simp only [GTallyTally.enc] at h
  obtain ⟨p0, q0⟩ := List.append_inj h (by simp [GConf.enc_len])
  have e0 := Enc.inj (α := GConf) _ _ p0
  obtain ⟨p1, q1⟩ := List.append_inj q0 (rfl)
  have e1 : a1 = b1 := by have := List.head_eq_of_cons_eq p1; injection this
  obtain ⟨p2, q2⟩ := List.append_inj q1 (rfl)
  have e2 : a2 = b2 := by have := List.head_eq_of_cons_eq p2; injection this
  obtain ⟨p3, q3⟩ := List.append_inj q2 (rfl)
  have e3 : a3 = b3 := by have := List.head_eq_of_cons_eq p3; injection this
  have e4 : a4 = b4 := by have := List.head_eq_of_cons_eq q3; injection this
  rw [e0, e1, e2, e3, e4]
instance : Enc GTallyTally where
  n := 6
  enc := GTallyTally.enc
  pos := by omega
  len := GTallyTally.enc_len
  one := GTallyTally.enc_one
  inj := GTallyTally.enc_inj
@[go_sem] theorem GTallyTally.n_eq : Enc.n GTallyTally = 6 := rfl
@[irreducible] def GTallyTally.val (x : GTallyTally) : Value := .agg x.enc.toArray
theorem GTallyTally.val_eq (x : GTallyTally) : GTallyTally.val x = .agg (Enc.enc x).toArray := by unfold GTallyTally.val; rfl
theorem uu336 : Tryz.prog.underlying 336 = some (.struct (Tryz.prog.fieldsOf 336)) := by kernel_rfl
@[go_sem ↓ high] theorem xb_GTallyTally (ρ : Operand → Value) (dst : Option Tmp) (x : Operand) (ty : TypeId) (pos : String) (after : Array Edge) (guard : Option (Nat × Bool)) : execOp ρ { dst, op := .box 336 x, type := ty, pos, after, guard } = (do pure (.value (← gBox 336 (ρ x)))) := ex_box ..
section
variable (w : World)
@[go_sem ↓ high] theorem bx_GTallyTally (x : GTallyTally) : (gBox 336 (GTallyTally.val x)).run Tryz.prog w = .ok (.pointer (some ⟨w.heap.size, 0, none⟩)) (w.alloc (.cells (GTallyTally.enc x).toArray 336)) := by
  rw [GTallyTally.val_eq]; exact run_gBox _ w
end
theorem ds336_0 (x : GTallyTally) : (x.enc.drop 0).take 2 = x.c.enc := by
  unfold GTallyTally.enc
  simp only [List.drop_zero] <;> (rw [List.take_append_of_le_length (by simp [GConf.enc_len])]; exact List.take_of_length_le (by simp [GConf.enc_len]))
theorem lk336_1 (x : GTallyTally) : x.enc[2]? = some (.map x.have_) := by
  simp [GTallyTally.enc, List.getElem?_append, GConf.enc_len]
theorem lk336_2 (x : GTallyTally) : x.enc[3]? = some (.map x.count) := by
  simp [GTallyTally.enc, List.getElem?_append, GConf.enc_len]
theorem lk336_3 (x : GTallyTally) : x.enc[4]? = some (.map x.all) := by
  simp [GTallyTally.enc, List.getElem?_append, GConf.enc_len]
theorem lk336_4 (x : GTallyTally) : x.enc[5]? = some (.map x.last) := by
  simp [GTallyTally.enc, List.getElem?_append, GConf.enc_len]
theorem zr336 : zeroT Tryz.prog 336 = some (.agg (GTallyTally.enc default).toArray) := by kernel_rfl
theorem GTallyTally.at_c {w : World} {a : Addr} {x : GTallyTally} (h : get? GTallyTally w a = some x) : get? GConf w (a.add 0) = some x.c := by
  rw [get?_iff] at h ⊢
  refine h.sub 0 fun j v hv => ?_
  have hd := ds336_0 x
  have hj : j < 2 := by have := (List.getElem?_eq_some_iff.1 hv).1; rwa [Enc.len] at this
  show x.enc[0 + j]? = some v
  rw [← List.getElem?_drop, ← List.getElem?_take_of_lt hj, hd]; exact hv
theorem GTallyTally.at_have_ {w : World} {a : Addr} {x : GTallyTally} (h : get? GTallyTally w a = some x) : w.cell? (a.add 2) = some (.map x.have_) := (get?_iff.1 h) _ _ (lk336_1 x)
theorem GTallyTally.at_count {w : World} {a : Addr} {x : GTallyTally} (h : get? GTallyTally w a = some x) : w.cell? (a.add 3) = some (.map x.count) := (get?_iff.1 h) _ _ (lk336_2 x)
theorem GTallyTally.at_all {w : World} {a : Addr} {x : GTallyTally} (h : get? GTallyTally w a = some x) : w.cell? (a.add 4) = some (.map x.all) := (get?_iff.1 h) _ _ (lk336_3 x)
theorem GTallyTally.at_last {w : World} {a : Addr} {x : GTallyTally} (h : get? GTallyTally w a = some x) : w.cell? (a.add 5) = some (.map x.last) := (get?_iff.1 h) _ _ (lk336_4 x)
@[go_sem] theorem nw336 (w : World) (n : Nat) (x : GTallyTally) (hn : n = w.heap.size) : get? GTallyTally (w.alloc (.cells (GTallyTally.enc x).toArray 336)) ⟨n, 0, none⟩ = some x := by
  subst hn; exact get?_new 336 x
theorem pl336 : ((Tryz.prog.fieldsOf 336).toList.mapM fun f => (Tryz.prog.info? f.type).map fun i => (f.offset, i.size)) = some [(0, 2), (2, 1), (3, 1), (4, 1), (5, 1)] := by kernel_rfl
theorem fs336_0 (x : GTallyTally) (v : GConf) (rest : List (Nat × Value)) : Instr.fill (fun i => ([(0, 2), (2, 1), (3, 1), (4, 1), (5, 1)] : List (Nat × Nat))[i]?) x.enc.toArray ((0, (v.val)) :: rest) = Instr.fill (fun i => ([(0, 2), (2, 1), (3, 1), (4, 1), (5, 1)] : List (Nat × Nat))[i]?) ({ x with c := v } : GTallyTally).enc.toArray rest := by
  have h := fill_seg [(0, 2), (2, 1), (3, 1), (4, 1), (5, 1)] 0 0 2 rfl (([] : List Value)) (x.c.enc) ([(.map x.have_)] ++ ([(.map x.count)] ++ ([(.map x.all)] ++ ([(.map x.last)] ++ (([] : List Value)))))) (v.enc) (v.val) rest (by rw [GConf.val_eq]; rfl) (by simp [GConf.enc_len]) (by simp [GConf.enc_len]) (by simp [GConf.enc_len])
  have e1 : x.enc = (([] : List Value)) ++ (x.c.enc ++ ([(.map x.have_)] ++ ([(.map x.count)] ++ ([(.map x.all)] ++ ([(.map x.last)] ++ (([] : List Value))))))) := by simp only [GTallyTally.enc, List.nil_append, List.append_assoc, List.append_nil]
  have e2 : ({ x with c := v } : GTallyTally).enc = (([] : List Value)) ++ (v.enc ++ ([(.map x.have_)] ++ ([(.map x.count)] ++ ([(.map x.all)] ++ ([(.map x.last)] ++ (([] : List Value))))))) := by simp only [GTallyTally.enc, List.nil_append, List.append_assoc, List.append_nil]
  rw [e1, e2]; exact h
theorem fs336_1 (x : GTallyTally) (v : Option Nat) (rest : List (Nat × Value)) : Instr.fill (fun i => ([(0, 2), (2, 1), (3, 1), (4, 1), (5, 1)] : List (Nat × Nat))[i]?) x.enc.toArray ((1, (.map v)) :: rest) = Instr.fill (fun i => ([(0, 2), (2, 1), (3, 1), (4, 1), (5, 1)] : List (Nat × Nat))[i]?) ({ x with have_ := v } : GTallyTally).enc.toArray rest := by
  have h := fill_seg [(0, 2), (2, 1), (3, 1), (4, 1), (5, 1)] 1 2 1 rfl (([] : List Value) ++ (x.c.enc)) ([(.map x.have_)]) ([(.map x.count)] ++ ([(.map x.all)] ++ ([(.map x.last)] ++ (([] : List Value))))) ([(.map v)]) (.map v) rest (rfl) (by simp [GConf.enc_len]) (by simp [GConf.enc_len]) (by simp [GConf.enc_len])
  have e1 : x.enc = (([] : List Value) ++ (x.c.enc)) ++ ([(.map x.have_)] ++ ([(.map x.count)] ++ ([(.map x.all)] ++ ([(.map x.last)] ++ (([] : List Value)))))) := by simp only [GTallyTally.enc, List.nil_append, List.append_assoc, List.append_nil]
  have e2 : ({ x with have_ := v } : GTallyTally).enc = (([] : List Value) ++ (x.c.enc)) ++ ([(.map v)] ++ ([(.map x.count)] ++ ([(.map x.all)] ++ ([(.map x.last)] ++ (([] : List Value)))))) := by simp only [GTallyTally.enc, List.nil_append, List.append_assoc, List.append_nil]
  rw [e1, e2]; exact h
theorem fs336_2 (x : GTallyTally) (v : Option Nat) (rest : List (Nat × Value)) : Instr.fill (fun i => ([(0, 2), (2, 1), (3, 1), (4, 1), (5, 1)] : List (Nat × Nat))[i]?) x.enc.toArray ((2, (.map v)) :: rest) = Instr.fill (fun i => ([(0, 2), (2, 1), (3, 1), (4, 1), (5, 1)] : List (Nat × Nat))[i]?) ({ x with count := v } : GTallyTally).enc.toArray rest := by
  have h := fill_seg [(0, 2), (2, 1), (3, 1), (4, 1), (5, 1)] 2 3 1 rfl (([] : List Value) ++ (x.c.enc ++ ([(.map x.have_)]))) ([(.map x.count)]) ([(.map x.all)] ++ ([(.map x.last)] ++ (([] : List Value)))) ([(.map v)]) (.map v) rest (rfl) (by simp [GConf.enc_len]) (by simp [GConf.enc_len]) (by simp [GConf.enc_len])
  have e1 : x.enc = (([] : List Value) ++ (x.c.enc ++ ([(.map x.have_)]))) ++ ([(.map x.count)] ++ ([(.map x.all)] ++ ([(.map x.last)] ++ (([] : List Value))))) := by simp only [GTallyTally.enc, List.nil_append, List.append_assoc, List.append_nil]
  have e2 : ({ x with count := v } : GTallyTally).enc = (([] : List Value) ++ (x.c.enc ++ ([(.map x.have_)]))) ++ ([(.map v)] ++ ([(.map x.all)] ++ ([(.map x.last)] ++ (([] : List Value))))) := by simp only [GTallyTally.enc, List.nil_append, List.append_assoc, List.append_nil]
  rw [e1, e2]; exact h
theorem fs336_3 (x : GTallyTally) (v : Option Nat) (rest : List (Nat × Value)) : Instr.fill (fun i => ([(0, 2), (2, 1), (3, 1), (4, 1), (5, 1)] : List (Nat × Nat))[i]?) x.enc.toArray ((3, (.map v)) :: rest) = Instr.fill (fun i => ([(0, 2), (2, 1), (3, 1), (4, 1), (5, 1)] : List (Nat × Nat))[i]?) ({ x with all := v } : GTallyTally).enc.toArray rest := by
  have h := fill_seg [(0, 2), (2, 1), (3, 1), (4, 1), (5, 1)] 3 4 1 rfl (([] : List Value) ++ (x.c.enc ++ ([(.map x.have_)] ++ ([(.map x.count)])))) ([(.map x.all)]) ([(.map x.last)] ++ (([] : List Value))) ([(.map v)]) (.map v) rest (rfl) (by simp [GConf.enc_len]) (by simp [GConf.enc_len]) (by simp [GConf.enc_len])
  have e1 : x.enc = (([] : List Value) ++ (x.c.enc ++ ([(.map x.have_)] ++ ([(.map x.count)])))) ++ ([(.map x.all)] ++ ([(.map x.last)] ++ (([] : List Value)))) := by simp only [GTallyTally.enc, List.nil_append, List.append_assoc, List.append_nil]
  have e2 : ({ x with all := v } : GTallyTally).enc = (([] : List Value) ++ (x.c.enc ++ ([(.map x.have_)] ++ ([(.map x.count)])))) ++ ([(.map v)] ++ ([(.map x.last)] ++ (([] : List Value)))) := by simp only [GTallyTally.enc, List.nil_append, List.append_assoc, List.append_nil]
  rw [e1, e2]; exact h
theorem fs336_4 (x : GTallyTally) (v : Option Nat) (rest : List (Nat × Value)) : Instr.fill (fun i => ([(0, 2), (2, 1), (3, 1), (4, 1), (5, 1)] : List (Nat × Nat))[i]?) x.enc.toArray ((4, (.map v)) :: rest) = Instr.fill (fun i => ([(0, 2), (2, 1), (3, 1), (4, 1), (5, 1)] : List (Nat × Nat))[i]?) ({ x with last := v } : GTallyTally).enc.toArray rest := by
  have h := fill_seg [(0, 2), (2, 1), (3, 1), (4, 1), (5, 1)] 4 5 1 rfl (([] : List Value) ++ (x.c.enc ++ ([(.map x.have_)] ++ ([(.map x.count)] ++ ([(.map x.all)]))))) ([(.map x.last)]) (([] : List Value)) ([(.map v)]) (.map v) rest (rfl) (by simp [GConf.enc_len]) (by simp [GConf.enc_len]) (by simp [GConf.enc_len])
  have e1 : x.enc = (([] : List Value) ++ (x.c.enc ++ ([(.map x.have_)] ++ ([(.map x.count)] ++ ([(.map x.all)]))))) ++ ([(.map x.last)] ++ (([] : List Value))) := by simp only [GTallyTally.enc, List.nil_append, List.append_assoc, List.append_nil]
  have e2 : ({ x with last := v } : GTallyTally).enc = (([] : List Value) ++ (x.c.enc ++ ([(.map x.have_)] ++ ([(.map x.count)] ++ ([(.map x.all)]))))) ++ ([(.map v)] ++ (([] : List Value))) := by simp only [GTallyTally.enc, List.nil_append, List.append_assoc, List.append_nil]
  rw [e1, e2]; exact h
@[go_sem ↓ high] theorem xd_GTallyTally (ρ : Operand → Value) (dst : Option Tmp) (ps : Array (Nat × Operand)) (ty : TypeId) (pos : String) (after : Array Edge) (guard : Option (Nat × Bool)) : execOp ρ { dst, op := .build 336 ps, type := ty, pos, after, guard } = (do pure (.value (← gBuild 336 (ps.map fun (i, x) => (i, ρ x))))) := ex_build ..
@[go_sem ↓ high] theorem bd336_0 (w : World) (v0 : GConf) (v1 : Option Nat) (v2 : Option Nat) (v3 : Option Nat) (v4 : Option Nat) : (gBuild 336 #[(0, (v0.val)), (1, (.map v1)), (2, (.map v2)), (3, (.map v3)), (4, (.map v4))]).run Tryz.prog w = .ok (GTallyTally.val ⟨v0, v1, v2, v3, v4⟩) w := by
  rw [GTallyTally.val_eq]
  refine run_gBuild_of uu336 zr336 pl336 ?_ w
  show Instr.fill _ (GTallyTally.enc default).toArray [(0, (v0.val)), (1, (.map v1)), (2, (.map v2)), (3, (.map v3)), (4, (.map v4))] = _
  rw [fs336_0, fs336_1, fs336_2, fs336_3, fs336_4]; rfl

/-! ### gavel/tally.voter -/
structure GTallyVoter where
  kind : Int
  round : Int
  replica : Int
deriving DecidableEq
instance : Inhabited GTallyVoter := ⟨⟨0, 0, 0⟩⟩
def GTallyVoter.enc (x : GTallyVoter) : List Value := [(.int .i64 x.kind)] ++ ([(.int .i64 x.round)] ++ ([(.int .i64 x.replica)]))
theorem GTallyVoter.enc_len (x : GTallyVoter) : x.enc.length = 3 := by simp [GTallyVoter.enc]
theorem GTallyVoter.enc_one (x : GTallyVoter) : ∀ u ∈ x.enc, u.oneCell' = true := by
  intro u hu
  simp only [GTallyVoter.enc, List.mem_append, List.mem_singleton] at hu
  rcases hu with hu | hu | hu
  · subst hu; rfl
  · subst hu; rfl
  · subst hu; rfl
theorem GTallyVoter.enc_inj (x y : GTallyVoter) (h : x.enc = y.enc) : x = y := by
  obtain ⟨a0, a1, a2⟩ := x
  obtain ⟨b0, b1, b2⟩ := y
  simp only [GTallyVoter.enc] at h
  obtain ⟨p0, q0⟩ := List.append_inj h (rfl)
  have e0 : a0 = b0 := by have := List.head_eq_of_cons_eq p0; injection this
  obtain ⟨p1, q1⟩ := List.append_inj q0 (rfl)
  have e1 : a1 = b1 := by have := List.head_eq_of_cons_eq p1; injection this
  have e2 : a2 = b2 := by have := List.head_eq_of_cons_eq q1; injection this
  rw [e0, e1, e2]
instance : Enc GTallyVoter where
  n := 3
  enc := GTallyVoter.enc
  pos := by omega
  len := GTallyVoter.enc_len
  one := GTallyVoter.enc_one
  inj := GTallyVoter.enc_inj
@[go_sem] theorem GTallyVoter.n_eq : Enc.n GTallyVoter = 3 := rfl
@[irreducible] def GTallyVoter.val (x : GTallyVoter) : Value := .agg x.enc.toArray
theorem GTallyVoter.val_eq (x : GTallyVoter) : GTallyVoter.val x = .agg (Enc.enc x).toArray := by unfold GTallyVoter.val; rfl
theorem GTallyVoter.ext_all (x y : GTallyVoter) : x = y ↔ x.kind = y.kind ∧ x.round = y.round ∧ x.replica = y.replica := by
  constructor
  · intro h; cases h; simp
  · intro h; cases x; cases y; simp_all
theorem uu341 : Tryz.prog.underlying 341 = some (.struct (Tryz.prog.fieldsOf 341)) := by kernel_rfl
theorem st341 : Tryz.prog.stoodInHeld 341 = false := by kernel_rfl
theorem fl341 : fieldTO Tryz.prog 341 = [(3, 0), (3, 1), (3, 2)] := by kernel_rfl
theorem nb341 : noBlank Tryz.prog 341 = true := by kernel_rfl
@[go_sem ↓ high] theorem xl_GTallyVoter (ρ : Operand → Value) (dst : Option Tmp) (x : Operand) (ty : TypeId) (pos : String) (after : Array Edge) (guard : Option (Nat × Bool)) : execOp ρ { dst, op := .load 341 x, type := ty, pos, after, guard } = (do pure (.value (← gLoad 341 (ρ x)))) := ex_load ..
@[go_sem ↓ high] theorem xs_GTallyVoter (ρ : Operand → Value) (dst : Option Tmp) (x y : Operand) (ty : TypeId) (pos : String) (after : Array Edge) (guard : Option (Nat × Bool)) : execOp ρ { dst, op := .store 341 x y, type := ty, pos, after, guard } = (do gStore 341 (ρ x) (ρ y); pure .skip) := ex_store ..
@[go_sem ↓ high] theorem xa_GTallyVoter (ρ : Operand → Value) (dst : Option Tmp) (ty : TypeId) (pos : String) (after : Array Edge) (guard : Option (Nat × Bool)) : execOp ρ { dst, op := .alloc 341, type := ty, pos, after, guard } = (do pure (.value (← gAlloc 341))) := ex_alloc ..
theorem ag341 : aggT Tryz.prog 341 = true := by kernel_rfl
theorem sz341 : sizeT Tryz.prog 341 = 3 := by kernel_rfl
section
variable (w : World)
@[go_sem ↓ high] theorem ld_GTallyVoter (a : Addr) : (gLoad 341 (.pointer (some a))).run Tryz.prog w = ofOpt ((get? GTallyVoter w a).map GTallyVoter.val) w (noLoad Tryz.prog 341 a w) := by
  unfold gLoad; exact run_loadAt_opt ag341 sz341 GTallyVoter.val GTallyVoter.val_eq
@[go_sem ↓ high] theorem st_GTallyVoter (a : Addr) (x : GTallyVoter) : (gStore 341 (.pointer (some a)) (GTallyVoter.val x)).run Tryz.prog w = okU' ((get? GTallyVoter w a).isSome && blkFree w a.block) (World.putCells w a (GTallyVoter.enc x)) (noStore Tryz.prog 341 (.pointer (some a)) (GTallyVoter.val x) w) := run_gStore_any sz341 GTallyVoter.val GTallyVoter.val_eq w a x
end
theorem lk341_0 (x : GTallyVoter) : x.enc[0]? = some (.int .i64 x.kind) := by
  simp [GTallyVoter.enc, List.getElem?_append]
theorem pt341_0 (w : World) (x : GTallyVoter) : (part 3 x.enc.toArray 0).run Tryz.prog w = .ok (.int .i64 x.kind) w := run_part_one na3 us3 (lk341_0 x)
theorem lk341_1 (x : GTallyVoter) : x.enc[1]? = some (.int .i64 x.round) := by
  simp [GTallyVoter.enc, List.getElem?_append]
theorem pt341_1 (w : World) (x : GTallyVoter) : (part 3 x.enc.toArray 1).run Tryz.prog w = .ok (.int .i64 x.round) w := run_part_one na3 us3 (lk341_1 x)
theorem lk341_2 (x : GTallyVoter) : x.enc[2]? = some (.int .i64 x.replica) := by
  simp [GTallyVoter.enc, List.getElem?_append]
theorem pt341_2 (w : World) (x : GTallyVoter) : (part 3 x.enc.toArray 2).run Tryz.prog w = .ok (.int .i64 x.replica) w := run_part_one na3 us3 (lk341_2 x)
theorem zr341 : zeroT Tryz.prog 341 = some (.agg (GTallyVoter.enc default).toArray) := by kernel_rfl
@[go_sem ↓ high] theorem al_GTallyVoter (w : World) : (gAlloc 341).run Tryz.prog w = .ok (.pointer (some ⟨w.heap.size, 0, none⟩)) (w.alloc (.cells (GTallyVoter.enc default).toArray 341)) := run_zero_alloc zr341 w
@[go_sem] theorem pc_GTallyVoter (w : World) (n : Nat) (x z : GTallyVoter) (hn : n = w.heap.size) : World.putCells (w.alloc (.cells (GTallyVoter.enc z).toArray 341)) ⟨n, 0, none⟩ (GTallyVoter.enc x) = w.alloc (.cells (GTallyVoter.enc x).toArray 341) := putCells_top x z hn
@[go_sem] theorem nw341 (w : World) (n : Nat) (x : GTallyVoter) (hn : n = w.heap.size) : get? GTallyVoter (w.alloc (.cells (GTallyVoter.enc x).toArray 341)) ⟨n, 0, none⟩ = some x := by
  subst hn; exact get?_new 341 x
theorem pl341 : ((Tryz.prog.fieldsOf 341).toList.mapM fun f => (Tryz.prog.info? f.type).map fun i => (f.offset, i.size)) = some [(0, 1), (1, 1), (2, 1)] := by kernel_rfl
theorem fs341_0 (x : GTallyVoter) (v : Int) (rest : List (Nat × Value)) : Instr.fill (fun i => ([(0, 1), (1, 1), (2, 1)] : List (Nat × Nat))[i]?) x.enc.toArray ((0, (.int .i64 v)) :: rest) = Instr.fill (fun i => ([(0, 1), (1, 1), (2, 1)] : List (Nat × Nat))[i]?) ({ x with kind := v } : GTallyVoter).enc.toArray rest := by
  have h := fill_seg [(0, 1), (1, 1), (2, 1)] 0 0 1 rfl (([] : List Value)) ([(.int .i64 x.kind)]) ([(.int .i64 x.round)] ++ ([(.int .i64 x.replica)] ++ (([] : List Value)))) ([(.int .i64 v)]) (.int .i64 v) rest (rfl) (by simp) (by simp) (by simp)
  have e1 : x.enc = (([] : List Value)) ++ ([(.int .i64 x.kind)] ++ ([(.int .i64 x.round)] ++ ([(.int .i64 x.replica)] ++ (([] : List Value))))) := by simp only [GTallyVoter.enc, List.nil_append, List.append_assoc, List.append_nil]
  have e2 : ({ x with kind := v } : GTallyVoter).enc = (([] : List Value)) ++ ([(.int .i64 v)] ++ ([(.int .i64 x.round)] ++ ([(.int .i64 x.replica)] ++ (([] : List Value))))) := by simp only [GTallyVoter.enc, List.nil_append, List.append_assoc, List.append_nil]
  rw [e1, e2]; exact h
theorem fs341_1 (x : GTallyVoter) (v : Int) (rest : List (Nat × Value)) : Instr.fill (fun i => ([(0, 1), (1, 1), (2, 1)] : List (Nat × Nat))[i]?) x.enc.toArray ((1, (.int .i64 v)) :: rest) = Instr.fill (fun i => ([(0, 1), (1, 1), (2, 1)] : List (Nat × Nat))[i]?) ({ x with round := v } : GTallyVoter).enc.toArray rest := by
  have h := fill_seg [(0, 1), (1, 1), (2, 1)] 1 1 1 rfl (([] : List Value) ++ ([(.int .i64 x.kind)])) ([(.int .i64 x.round)]) ([(.int .i64 x.replica)] ++ (([] : List Value))) ([(.int .i64 v)]) (.int .i64 v) rest (rfl) (by simp) (by simp) (by simp)
  have e1 : x.enc = (([] : List Value) ++ ([(.int .i64 x.kind)])) ++ ([(.int .i64 x.round)] ++ ([(.int .i64 x.replica)] ++ (([] : List Value)))) := by simp only [GTallyVoter.enc, List.nil_append, List.append_assoc, List.append_nil]
  have e2 : ({ x with round := v } : GTallyVoter).enc = (([] : List Value) ++ ([(.int .i64 x.kind)])) ++ ([(.int .i64 v)] ++ ([(.int .i64 x.replica)] ++ (([] : List Value)))) := by simp only [GTallyVoter.enc, List.nil_append, List.append_assoc, List.append_nil]
  rw [e1, e2]; exact h
theorem fs341_2 (x : GTallyVoter) (v : Int) (rest : List (Nat × Value)) : Instr.fill (fun i => ([(0, 1), (1, 1), (2, 1)] : List (Nat × Nat))[i]?) x.enc.toArray ((2, (.int .i64 v)) :: rest) = Instr.fill (fun i => ([(0, 1), (1, 1), (2, 1)] : List (Nat × Nat))[i]?) ({ x with replica := v } : GTallyVoter).enc.toArray rest := by
  have h := fill_seg [(0, 1), (1, 1), (2, 1)] 2 2 1 rfl (([] : List Value) ++ ([(.int .i64 x.kind)] ++ ([(.int .i64 x.round)]))) ([(.int .i64 x.replica)]) (([] : List Value)) ([(.int .i64 v)]) (.int .i64 v) rest (rfl) (by simp) (by simp) (by simp)
  have e1 : x.enc = (([] : List Value) ++ ([(.int .i64 x.kind)] ++ ([(.int .i64 x.round)]))) ++ ([(.int .i64 x.replica)] ++ (([] : List Value))) := by simp only [GTallyVoter.enc, List.nil_append, List.append_assoc, List.append_nil]
  have e2 : ({ x with replica := v } : GTallyVoter).enc = (([] : List Value) ++ ([(.int .i64 x.kind)] ++ ([(.int .i64 x.round)]))) ++ ([(.int .i64 v)] ++ (([] : List Value))) := by simp only [GTallyVoter.enc, List.nil_append, List.append_assoc, List.append_nil]
  rw [e1, e2]; exact h
@[go_sem ↓ high] theorem xd_GTallyVoter (ρ : Operand → Value) (dst : Option Tmp) (ps : Array (Nat × Operand)) (ty : TypeId) (pos : String) (after : Array Edge) (guard : Option (Nat × Bool)) : execOp ρ { dst, op := .build 341 ps, type := ty, pos, after, guard } = (do pure (.value (← gBuild 341 (ps.map fun (i, x) => (i, ρ x))))) := ex_build ..
@[go_sem ↓ high] theorem bd341_0 (w : World) (v0 : Int) (v1 : Int) (v2 : Int) : (gBuild 341 #[(0, (.int .i64 v0)), (1, (.int .i64 v1)), (2, (.int .i64 v2))]).run Tryz.prog w = .ok (GTallyVoter.val ⟨v0, v1, v2⟩) w := by
  rw [GTallyVoter.val_eq]
  refine run_gBuild_of uu341 zr341 pl341 ?_ w
  show Instr.fill _ (GTallyVoter.enc default).toArray [(0, (.int .i64 v0)), (1, (.int .i64 v1)), (2, (.int .i64 v2))] = _
  rw [fs341_0, fs341_1, fs341_2]; rfl
theorem eq_GTallyVoter (w : World) (d : Nat) (x y : GTallyVoter) : (Op.equalIn (d + 2) 341 (GTallyVoter.val x) (GTallyVoter.val y)).run Tryz.prog w = .ok (decide (x = y)) w := by
  have q0 : ∀ a b, (Op.equalIn (d + 1) 3 (.int .i64 a) (.int .i64 b)).run Tryz.prog w = .ok (decide (a = b)) w := fun a b => by rw [run_equalIn_int w (d + 0) 3 .i64 .i64 a b uk3]; congr 1
  have q1 : ∀ a b, (Op.equalIn (d + 1) 3 (.int .i64 a) (.int .i64 b)).run Tryz.prog w = .ok (decide (a = b)) w := fun a b => by rw [run_equalIn_int w (d + 0) 3 .i64 .i64 a b uk3]; congr 1
  have q2 : ∀ a b, (Op.equalIn (d + 1) 3 (.int .i64 a) (.int .i64 b)).run Tryz.prog w = .ok (decide (a = b)) w := fun a b => by rw [run_equalIn_int w (d + 0) 3 .i64 .i64 a b uk3]; congr 1
  have h := run_equalIn_fields (d + 1) x.enc.toArray y.enc.toArray w uu341 st341 nb341
  rw [fl341] at h
  unfold GTallyVoter.val
  refine h.trans ?_
  clear h
  simp only [eqFs, Sem.run_bind, pt341_0, pt341_1, pt341_2, q0, q1, q2, Result.andThen_ok, Sem.run_ite, Sem.run_pure]
  have he : decide (x = y) = (decide (x.kind = y.kind) && (decide (x.round = y.round) && (decide (x.replica = y.replica)))) := by
    rw [Bool.eq_iff_iff]; simp only [Bool.and_eq_true, decide_eq_true_eq]; exact GTallyVoter.ext_all x y
  rw [he]
  generalize decide (x.kind = y.kind) = c0; generalize decide (x.round = y.round) = c1; generalize decide (x.replica = y.replica) = c2
  cases c0 <;> cases c1 <;> cases c2 <;> simp
/-! ### gavel/tally.turn -/
structure GTallyTurn where
  kind : Int
  round : Int
deriving DecidableEq
instance : Inhabited GTallyTurn := ⟨⟨0, 0⟩⟩
def GTallyTurn.enc (x : GTallyTurn) : List Value := [(.int .i64 x.kind)] ++ ([(.int .i64 x.round)])
theorem GTallyTurn.enc_len (x : GTallyTurn) : x.enc.length = 2 := by simp [GTallyTurn.enc]
theorem GTallyTurn.enc_one (x : GTallyTurn) : ∀ u ∈ x.enc, u.oneCell' = true := by
  intro u hu
  simp only [GTallyTurn.enc, List.mem_append, List.mem_singleton] at hu
  rcases hu with hu | hu
  · subst hu; rfl
  · subst hu; rfl
theorem GTallyTurn.enc_inj (x y : GTallyTurn) (h : x.enc = y.enc) : x = y := by
  obtain ⟨a0, a1⟩ := x
  obtain ⟨b0, b1⟩ := y
  simp only [GTallyTurn.enc] at h
  obtain ⟨p0, q0⟩ := List.append_inj h (rfl)
  have e0 : a0 = b0 := by have := List.head_eq_of_cons_eq p0; injection this
  have e1 : a1 = b1 := by have := List.head_eq_of_cons_eq q0; injection this
  rw [e0, e1]
instance : Enc GTallyTurn where
  n := 2
  enc := GTallyTurn.enc
  pos := by omega
  len := GTallyTurn.enc_len
  one := GTallyTurn.enc_one
  inj := GTallyTurn.enc_inj
@[go_sem] theorem GTallyTurn.n_eq : Enc.n GTallyTurn = 2 := rfl
@[irreducible] def GTallyTurn.val (x : GTallyTurn) : Value := .agg x.enc.toArray
theorem GTallyTurn.val_eq (x : GTallyTurn) : GTallyTurn.val x = .agg (Enc.enc x).toArray := by unfold GTallyTurn.val; rfl
theorem GTallyTurn.ext_all (x y : GTallyTurn) : x = y ↔ x.kind = y.kind ∧ x.round = y.round := by
  constructor
  · intro h; cases h; simp
  · intro h; cases x; cases y; simp_all
theorem uu345 : Tryz.prog.underlying 345 = some (.struct (Tryz.prog.fieldsOf 345)) := by kernel_rfl
theorem st345 : Tryz.prog.stoodInHeld 345 = false := by kernel_rfl
theorem fl345 : fieldTO Tryz.prog 345 = [(3, 0), (3, 1)] := by kernel_rfl
theorem nb345 : noBlank Tryz.prog 345 = true := by kernel_rfl
section
variable (w : World)
end
theorem lk345_0 (x : GTallyTurn) : x.enc[0]? = some (.int .i64 x.kind) := by
  simp [GTallyTurn.enc, List.getElem?_append]
theorem pt345_0 (w : World) (x : GTallyTurn) : (part 3 x.enc.toArray 0).run Tryz.prog w = .ok (.int .i64 x.kind) w := run_part_one na3 us3 (lk345_0 x)
theorem lk345_1 (x : GTallyTurn) : x.enc[1]? = some (.int .i64 x.round) := by
  simp [GTallyTurn.enc, List.getElem?_append]
theorem pt345_1 (w : World) (x : GTallyTurn) : (part 3 x.enc.toArray 1).run Tryz.prog w = .ok (.int .i64 x.round) w := run_part_one na3 us3 (lk345_1 x)
theorem zr345 : zeroT Tryz.prog 345 = some (.agg (GTallyTurn.enc default).toArray) := by kernel_rfl
theorem pl345 : ((Tryz.prog.fieldsOf 345).toList.mapM fun f => (Tryz.prog.info? f.type).map fun i => (f.offset, i.size)) = some [(0, 1), (1, 1)] := by kernel_rfl
theorem fs345_0 (x : GTallyTurn) (v : Int) (rest : List (Nat × Value)) : Instr.fill (fun i => ([(0, 1), (1, 1)] : List (Nat × Nat))[i]?) x.enc.toArray ((0, (.int .i64 v)) :: rest) = Instr.fill (fun i => ([(0, 1), (1, 1)] : List (Nat × Nat))[i]?) ({ x with kind := v } : GTallyTurn).enc.toArray rest := by
  have h := fill_seg [(0, 1), (1, 1)] 0 0 1 rfl (([] : List Value)) ([(.int .i64 x.kind)]) ([(.int .i64 x.round)] ++ (([] : List Value))) ([(.int .i64 v)]) (.int .i64 v) rest (rfl) (by simp) (by simp) (by simp)
  have e1 : x.enc = (([] : List Value)) ++ ([(.int .i64 x.kind)] ++ ([(.int .i64 x.round)] ++ (([] : List Value)))) := by simp only [GTallyTurn.enc, List.nil_append, List.append_assoc, List.append_nil]
  have e2 : ({ x with kind := v } : GTallyTurn).enc = (([] : List Value)) ++ ([(.int .i64 v)] ++ ([(.int .i64 x.round)] ++ (([] : List Value)))) := by simp only [GTallyTurn.enc, List.nil_append, List.append_assoc, List.append_nil]
  rw [e1, e2]; exact h
theorem fs345_1 (x : GTallyTurn) (v : Int) (rest : List (Nat × Value)) : Instr.fill (fun i => ([(0, 1), (1, 1)] : List (Nat × Nat))[i]?) x.enc.toArray ((1, (.int .i64 v)) :: rest) = Instr.fill (fun i => ([(0, 1), (1, 1)] : List (Nat × Nat))[i]?) ({ x with round := v } : GTallyTurn).enc.toArray rest := by
  have h := fill_seg [(0, 1), (1, 1)] 1 1 1 rfl (([] : List Value) ++ ([(.int .i64 x.kind)])) ([(.int .i64 x.round)]) (([] : List Value)) ([(.int .i64 v)]) (.int .i64 v) rest (rfl) (by simp) (by simp) (by simp)
  have e1 : x.enc = (([] : List Value) ++ ([(.int .i64 x.kind)])) ++ ([(.int .i64 x.round)] ++ (([] : List Value))) := by simp only [GTallyTurn.enc, List.nil_append, List.append_assoc, List.append_nil]
  have e2 : ({ x with round := v } : GTallyTurn).enc = (([] : List Value) ++ ([(.int .i64 x.kind)])) ++ ([(.int .i64 v)] ++ (([] : List Value))) := by simp only [GTallyTurn.enc, List.nil_append, List.append_assoc, List.append_nil]
  rw [e1, e2]; exact h
@[go_sem ↓ high] theorem xd_GTallyTurn (ρ : Operand → Value) (dst : Option Tmp) (ps : Array (Nat × Operand)) (ty : TypeId) (pos : String) (after : Array Edge) (guard : Option (Nat × Bool)) : execOp ρ { dst, op := .build 345 ps, type := ty, pos, after, guard } = (do pure (.value (← gBuild 345 (ps.map fun (i, x) => (i, ρ x))))) := ex_build ..
@[go_sem ↓ high] theorem bd345_0 (w : World) (v0 : Int) (v1 : Int) : (gBuild 345 #[(0, (.int .i64 v0)), (1, (.int .i64 v1))]).run Tryz.prog w = .ok (GTallyTurn.val ⟨v0, v1⟩) w := by
  rw [GTallyTurn.val_eq]
  refine run_gBuild_of uu345 zr345 pl345 ?_ w
  show Instr.fill _ (GTallyTurn.enc default).toArray [(0, (.int .i64 v0)), (1, (.int .i64 v1))] = _
  rw [fs345_0, fs345_1]; rfl
theorem eq_GTallyTurn (w : World) (d : Nat) (x y : GTallyTurn) : (Op.equalIn (d + 2) 345 (GTallyTurn.val x) (GTallyTurn.val y)).run Tryz.prog w = .ok (decide (x = y)) w := by
  have q0 : ∀ a b, (Op.equalIn (d + 1) 3 (.int .i64 a) (.int .i64 b)).run Tryz.prog w = .ok (decide (a = b)) w := fun a b => by rw [run_equalIn_int w (d + 0) 3 .i64 .i64 a b uk3]; congr 1
  have q1 : ∀ a b, (Op.equalIn (d + 1) 3 (.int .i64 a) (.int .i64 b)).run Tryz.prog w = .ok (decide (a = b)) w := fun a b => by rw [run_equalIn_int w (d + 0) 3 .i64 .i64 a b uk3]; congr 1
  have h := run_equalIn_fields (d + 1) x.enc.toArray y.enc.toArray w uu345 st345 nb345
  rw [fl345] at h
  unfold GTallyTurn.val
  refine h.trans ?_
  clear h
  simp only [eqFs, Sem.run_bind, pt345_0, pt345_1, q0, q1, Result.andThen_ok, Sem.run_ite, Sem.run_pure]
  have he : decide (x = y) = (decide (x.kind = y.kind) && (decide (x.round = y.round))) := by
    rw [Bool.eq_iff_iff]; simp only [Bool.and_eq_true, decide_eq_true_eq]; exact GTallyTurn.ext_all x y
  rw [he]
  generalize decide (x.kind = y.kind) = c0; generalize decide (x.round = y.round) = c1
  cases c0 <;> cases c1 <;> simp
/-! ### gavel/core.State -/
structure GCoreState where
  round : Int
  step : Int
  lockedRound : Int
  validRound : Int
  locked : GHash
  valid : GHash
  decided : Bool
  decision : GHash
deriving DecidableEq
instance : Inhabited GCoreState := ⟨⟨0, 0, 0, 0, default, default, false, default⟩⟩
def GCoreState.enc (x : GCoreState) : List Value := [(.int .i64 x.round)] ++ ([(.int .i64 x.step)] ++ ([(.int .i64 x.lockedRound)] ++ ([(.int .i64 x.validRound)] ++ (x.locked.enc ++ (x.valid.enc ++ ([(.bool x.decided)] ++ (x.decision.enc)))))))
theorem GCoreState.enc_len (x : GCoreState) : x.enc.length = 101 := by simp [GCoreState.enc, GHash.enc_len]
theorem GCoreState.enc_one (x : GCoreState) : ∀ u ∈ x.enc, u.oneCell' = true := by
  intro u hu
  simp only [GCoreState.enc, List.mem_append, List.mem_singleton] at hu
  rcases hu with hu | hu | hu | hu | hu | hu | hu | hu
  · subst hu; rfl
  · subst hu; rfl
  · subst hu; rfl
  · subst hu; rfl
  · exact Enc.one (α := GHash) _ _ hu
  · exact Enc.one (α := GHash) _ _ hu
  · subst hu; rfl
  · exact Enc.one (α := GHash) _ _ hu
theorem GCoreState.enc_inj (x y : GCoreState) (h : x.enc = y.enc) : x = y := by
  obtain ⟨a0, a1, a2, a3, a4, a5, a6, a7⟩ := x
  obtain ⟨b0, b1, b2, b3, b4, b5, b6, b7⟩ := y
  simp only [GCoreState.enc] at h
  obtain ⟨p0, q0⟩ := List.append_inj h (rfl)
  have e0 : a0 = b0 := by have := List.head_eq_of_cons_eq p0; injection this
  obtain ⟨p1, q1⟩ := List.append_inj q0 (rfl)
  have e1 : a1 = b1 := by have := List.head_eq_of_cons_eq p1; injection this
  obtain ⟨p2, q2⟩ := List.append_inj q1 (rfl)
  have e2 : a2 = b2 := by have := List.head_eq_of_cons_eq p2; injection this
  obtain ⟨p3, q3⟩ := List.append_inj q2 (rfl)
  have e3 : a3 = b3 := by have := List.head_eq_of_cons_eq p3; injection this
  obtain ⟨p4, q4⟩ := List.append_inj q3 (by simp [GHash.enc_len])
  have e4 := Enc.inj (α := GHash) _ _ p4
  obtain ⟨p5, q5⟩ := List.append_inj q4 (by simp [GHash.enc_len])
  have e5 := Enc.inj (α := GHash) _ _ p5
  obtain ⟨p6, q6⟩ := List.append_inj q5 (rfl)
  have e6 : a6 = b6 := by have := List.head_eq_of_cons_eq p6; injection this
  have e7 := Enc.inj (α := GHash) _ _ q6
  rw [e0, e1, e2, e3, e4, e5, e6, e7]
instance : Enc GCoreState where
  n := 101
  enc := GCoreState.enc
  pos := by omega
  len := GCoreState.enc_len
  one := GCoreState.enc_one
  inj := GCoreState.enc_inj
@[go_sem] theorem GCoreState.n_eq : Enc.n GCoreState = 101 := rfl
@[irreducible] def GCoreState.val (x : GCoreState) : Value := .agg x.enc.toArray
theorem GCoreState.val_eq (x : GCoreState) : GCoreState.val x = .agg (Enc.enc x).toArray := by unfold GCoreState.val; rfl
theorem uu197 : Tryz.prog.underlying 197 = some (.struct (Tryz.prog.fieldsOf 197)) := by kernel_rfl
theorem fl197 : fieldTO Tryz.prog 197 = [(3, 0), (3, 1), (3, 2), (3, 3), (35, 4), (35, 36), (4, 68), (35, 69)] := by kernel_rfl
@[go_sem ↓ high] theorem xl_GCoreState (ρ : Operand → Value) (dst : Option Tmp) (x : Operand) (ty : TypeId) (pos : String) (after : Array Edge) (guard : Option (Nat × Bool)) : execOp ρ { dst, op := .load 197 x, type := ty, pos, after, guard } = (do pure (.value (← gLoad 197 (ρ x)))) := ex_load ..
@[go_sem ↓ high] theorem xs_GCoreState (ρ : Operand → Value) (dst : Option Tmp) (x y : Operand) (ty : TypeId) (pos : String) (after : Array Edge) (guard : Option (Nat × Bool)) : execOp ρ { dst, op := .store 197 x y, type := ty, pos, after, guard } = (do gStore 197 (ρ x) (ρ y); pure .skip) := ex_store ..
@[go_sem ↓ high] theorem xa_GCoreState (ρ : Operand → Value) (dst : Option Tmp) (ty : TypeId) (pos : String) (after : Array Edge) (guard : Option (Nat × Bool)) : execOp ρ { dst, op := .alloc 197, type := ty, pos, after, guard } = (do pure (.value (← gAlloc 197))) := ex_alloc ..
theorem ag197 : aggT Tryz.prog 197 = true := by kernel_rfl
theorem sz197 : sizeT Tryz.prog 197 = 101 := by kernel_rfl
section
variable (w : World)
@[go_sem ↓ high] theorem ld_GCoreState (a : Addr) : (gLoad 197 (.pointer (some a))).run Tryz.prog w = ofOpt ((get? GCoreState w a).map GCoreState.val) w (noLoad Tryz.prog 197 a w) := by
  unfold gLoad; exact run_loadAt_opt ag197 sz197 GCoreState.val GCoreState.val_eq
@[go_sem ↓ high] theorem st_GCoreState (a : Addr) (x : GCoreState) : (gStore 197 (.pointer (some a)) (GCoreState.val x)).run Tryz.prog w = okU' ((get? GCoreState w a).isSome && blkFree w a.block) (World.putCells w a (GCoreState.enc x)) (noStore Tryz.prog 197 (.pointer (some a)) (GCoreState.val x) w) := run_gStore_any sz197 GCoreState.val GCoreState.val_eq w a x
end
theorem lk197_0 (x : GCoreState) : x.enc[0]? = some (.int .i64 x.round) := by
  simp [GCoreState.enc, List.getElem?_append]
theorem pt197_0 (w : World) (x : GCoreState) : (part 3 x.enc.toArray 0).run Tryz.prog w = .ok (.int .i64 x.round) w := run_part_one na3 us3 (lk197_0 x)
@[go_sem ↓ high] theorem fd197_0 (w : World) (x : GCoreState) : (gField 197 (GCoreState.val x) 0).run Tryz.prog w = .ok (.int .i64 x.round) w := by
  rw [GCoreState.val_eq]
  exact run_gField w uu197 (by rw [fl197]; rfl) (pt197_0 w x)
theorem lk197_1 (x : GCoreState) : x.enc[1]? = some (.int .i64 x.step) := by
  simp [GCoreState.enc, List.getElem?_append]
theorem lk197_3 (x : GCoreState) : x.enc[3]? = some (.int .i64 x.validRound) := by
  simp [GCoreState.enc, List.getElem?_append]
theorem ds197_5 (x : GCoreState) : (x.enc.drop 36).take 32 = x.valid.enc := by
  unfold GCoreState.enc
  simp [List.drop_append, List.drop_eq_nil_of_le, GHash.enc_len] <;> (rw [List.take_append_of_le_length (by simp [GHash.enc_len])]; exact List.take_of_length_le (by simp [GHash.enc_len]))
theorem lk197_6 (x : GCoreState) : x.enc[68]? = some (.bool x.decided) := by
  simp [GCoreState.enc, List.getElem?_append, GHash.enc_len]
@[go_sem ↓ high] theorem xf_GCoreState (ρ : Operand → Value) (dst : Option Tmp) (x : Operand) (i : Nat) (ty : TypeId) (pos : String) (after : Array Edge) (guard : Option (Nat × Bool)) : execOp ρ { dst, op := .field 197 x i, type := ty, pos, after, guard } = (do pure (.value (← gField 197 (ρ x) i))) := ex_field ..
theorem zr197 : zeroT Tryz.prog 197 = some (.agg (GCoreState.enc default).toArray) := by kernel_rfl
@[go_sem ↓ high] theorem al_GCoreState (w : World) : (gAlloc 197).run Tryz.prog w = .ok (.pointer (some ⟨w.heap.size, 0, none⟩)) (w.alloc (.cells (GCoreState.enc default).toArray 197)) := run_zero_alloc zr197 w
@[go_sem] theorem pc_GCoreState (w : World) (n : Nat) (x z : GCoreState) (hn : n = w.heap.size) : World.putCells (w.alloc (.cells (GCoreState.enc z).toArray 197)) ⟨n, 0, none⟩ (GCoreState.enc x) = w.alloc (.cells (GCoreState.enc x).toArray 197) := putCells_top x z hn
theorem GCoreState.at_round {w : World} {a : Addr} {x : GCoreState} (h : get? GCoreState w a = some x) : w.cell? (a.add 0) = some (.int .i64 x.round) := (get?_iff.1 h) _ _ (lk197_0 x)
theorem GCoreState.at_step {w : World} {a : Addr} {x : GCoreState} (h : get? GCoreState w a = some x) : w.cell? (a.add 1) = some (.int .i64 x.step) := (get?_iff.1 h) _ _ (lk197_1 x)
theorem GCoreState.at_validRound {w : World} {a : Addr} {x : GCoreState} (h : get? GCoreState w a = some x) : w.cell? (a.add 3) = some (.int .i64 x.validRound) := (get?_iff.1 h) _ _ (lk197_3 x)
theorem GCoreState.at_valid {w : World} {a : Addr} {x : GCoreState} (h : get? GCoreState w a = some x) : get? GHash w (a.add 36) = some x.valid := by
  rw [get?_iff] at h ⊢
  refine h.sub 36 fun j v hv => ?_
  have hd := ds197_5 x
  have hj : j < 32 := by have := (List.getElem?_eq_some_iff.1 hv).1; rwa [Enc.len] at this
  show x.enc[36 + j]? = some v
  rw [← List.getElem?_drop, ← List.getElem?_take_of_lt hj, hd]; exact hv
theorem GCoreState.at_decided {w : World} {a : Addr} {x : GCoreState} (h : get? GCoreState w a = some x) : w.cell? (a.add 68) = some (.bool x.decided) := (get?_iff.1 h) _ _ (lk197_6 x)
@[go_sem] theorem nw197 (w : World) (n : Nat) (x : GCoreState) (hn : n = w.heap.size) : get? GCoreState (w.alloc (.cells (GCoreState.enc x).toArray 197)) ⟨n, 0, none⟩ = some x := by
  subst hn; exact get?_new 197 x
theorem pl197 : ((Tryz.prog.fieldsOf 197).toList.mapM fun f => (Tryz.prog.info? f.type).map fun i => (f.offset, i.size)) = some [(0, 1), (1, 1), (2, 1), (3, 1), (4, 32), (36, 32), (68, 1), (69, 32)] := by kernel_rfl
theorem fs197_2 (x : GCoreState) (v : Int) (rest : List (Nat × Value)) : Instr.fill (fun i => ([(0, 1), (1, 1), (2, 1), (3, 1), (4, 32), (36, 32), (68, 1), (69, 32)] : List (Nat × Nat))[i]?) x.enc.toArray ((2, (.int .i64 v)) :: rest) = Instr.fill (fun i => ([(0, 1), (1, 1), (2, 1), (3, 1), (4, 32), (36, 32), (68, 1), (69, 32)] : List (Nat × Nat))[i]?) ({ x with lockedRound := v } : GCoreState).enc.toArray rest := by
  have h := fill_seg [(0, 1), (1, 1), (2, 1), (3, 1), (4, 32), (36, 32), (68, 1), (69, 32)] 2 2 1 rfl (([] : List Value) ++ ([(.int .i64 x.round)] ++ ([(.int .i64 x.step)]))) ([(.int .i64 x.lockedRound)]) ([(.int .i64 x.validRound)] ++ (x.locked.enc ++ (x.valid.enc ++ ([(.bool x.decided)] ++ (x.decision.enc ++ (([] : List Value))))))) ([(.int .i64 v)]) (.int .i64 v) rest (rfl) (by simp [GHash.enc_len]) (by simp [GHash.enc_len]) (by simp [GHash.enc_len])
  have e1 : x.enc = (([] : List Value) ++ ([(.int .i64 x.round)] ++ ([(.int .i64 x.step)]))) ++ ([(.int .i64 x.lockedRound)] ++ ([(.int .i64 x.validRound)] ++ (x.locked.enc ++ (x.valid.enc ++ ([(.bool x.decided)] ++ (x.decision.enc ++ (([] : List Value)))))))) := by simp only [GCoreState.enc, List.nil_append, List.append_assoc, List.append_nil]
  have e2 : ({ x with lockedRound := v } : GCoreState).enc = (([] : List Value) ++ ([(.int .i64 x.round)] ++ ([(.int .i64 x.step)]))) ++ ([(.int .i64 v)] ++ ([(.int .i64 x.validRound)] ++ (x.locked.enc ++ (x.valid.enc ++ ([(.bool x.decided)] ++ (x.decision.enc ++ (([] : List Value)))))))) := by simp only [GCoreState.enc, List.nil_append, List.append_assoc, List.append_nil]
  rw [e1, e2]; exact h
theorem fs197_3 (x : GCoreState) (v : Int) (rest : List (Nat × Value)) : Instr.fill (fun i => ([(0, 1), (1, 1), (2, 1), (3, 1), (4, 32), (36, 32), (68, 1), (69, 32)] : List (Nat × Nat))[i]?) x.enc.toArray ((3, (.int .i64 v)) :: rest) = Instr.fill (fun i => ([(0, 1), (1, 1), (2, 1), (3, 1), (4, 32), (36, 32), (68, 1), (69, 32)] : List (Nat × Nat))[i]?) ({ x with validRound := v } : GCoreState).enc.toArray rest := by
  have h := fill_seg [(0, 1), (1, 1), (2, 1), (3, 1), (4, 32), (36, 32), (68, 1), (69, 32)] 3 3 1 rfl (([] : List Value) ++ ([(.int .i64 x.round)] ++ ([(.int .i64 x.step)] ++ ([(.int .i64 x.lockedRound)])))) ([(.int .i64 x.validRound)]) (x.locked.enc ++ (x.valid.enc ++ ([(.bool x.decided)] ++ (x.decision.enc ++ (([] : List Value)))))) ([(.int .i64 v)]) (.int .i64 v) rest (rfl) (by simp [GHash.enc_len]) (by simp [GHash.enc_len]) (by simp [GHash.enc_len])
  have e1 : x.enc = (([] : List Value) ++ ([(.int .i64 x.round)] ++ ([(.int .i64 x.step)] ++ ([(.int .i64 x.lockedRound)])))) ++ ([(.int .i64 x.validRound)] ++ (x.locked.enc ++ (x.valid.enc ++ ([(.bool x.decided)] ++ (x.decision.enc ++ (([] : List Value))))))) := by simp only [GCoreState.enc, List.nil_append, List.append_assoc, List.append_nil]
  have e2 : ({ x with validRound := v } : GCoreState).enc = (([] : List Value) ++ ([(.int .i64 x.round)] ++ ([(.int .i64 x.step)] ++ ([(.int .i64 x.lockedRound)])))) ++ ([(.int .i64 v)] ++ (x.locked.enc ++ (x.valid.enc ++ ([(.bool x.decided)] ++ (x.decision.enc ++ (([] : List Value))))))) := by simp only [GCoreState.enc, List.nil_append, List.append_assoc, List.append_nil]
  rw [e1, e2]; exact h
@[go_sem ↓ high] theorem xd_GCoreState (ρ : Operand → Value) (dst : Option Tmp) (ps : Array (Nat × Operand)) (ty : TypeId) (pos : String) (after : Array Edge) (guard : Option (Nat × Bool)) : execOp ρ { dst, op := .build 197 ps, type := ty, pos, after, guard } = (do pure (.value (← gBuild 197 (ps.map fun (i, x) => (i, ρ x))))) := ex_build ..
@[go_sem ↓ high] theorem bd197_0 (w : World) (v2 : Int) (v3 : Int) : (gBuild 197 #[(2, (.int .i64 v2)), (3, (.int .i64 v3))]).run Tryz.prog w = .ok (GCoreState.val ⟨0, 0, v2, v3, default, default, false, default⟩) w := by
  rw [GCoreState.val_eq]
  refine run_gBuild_of uu197 zr197 pl197 ?_ w
  show Instr.fill _ (GCoreState.enc default).toArray [(2, (.int .i64 v2)), (3, (.int .i64 v3))] = _
  rw [fs197_2, fs197_3]; rfl
/-! ### gavel/core.Core -/
structure GCoreCore where
  c : GConf
  epoch : Int
  replica : Int
  s : GCoreState
  t : Option Addr
  proposals : Option Nat
  wasValid : Bool
  setPrevote : Bool
  setPrecommit : Bool
deriving DecidableEq
instance : Inhabited GCoreCore := ⟨⟨default, 0, 0, default, none, none, false, false, false⟩⟩
def GCoreCore.enc (x : GCoreCore) : List Value := x.c.enc ++ ([(.int .i64 x.epoch)] ++ ([(.int .i64 x.replica)] ++ (x.s.enc ++ ([(.pointer x.t)] ++ ([(.map x.proposals)] ++ ([(.bool x.wasValid)] ++ ([(.bool x.setPrevote)] ++ ([(.bool x.setPrecommit)]))))))))
theorem GCoreCore.enc_len (x : GCoreCore) : x.enc.length = 110 := by simp [GCoreCore.enc, GConf.enc_len, GCoreState.enc_len]
theorem GCoreCore.enc_one (x : GCoreCore) : ∀ u ∈ x.enc, u.oneCell' = true := by
  intro u hu
  simp only [GCoreCore.enc, List.mem_append, List.mem_singleton] at hu
  rcases hu with hu | hu | hu | hu | hu | hu | hu | hu | hu
  · exact Enc.one (α := GConf) _ _ hu
  · subst hu; rfl
  · subst hu; rfl
  · exact Enc.one (α := GCoreState) _ _ hu
  · subst hu; rfl
  · subst hu; rfl
  · subst hu; rfl
  · subst hu; rfl
  · subst hu; rfl
theorem GCoreCore.enc_inj (x y : GCoreCore) (h : x.enc = y.enc) : x = y := by
  obtain ⟨a0, a1, a2, a3, a4, a5, a6, a7, a8⟩ := x
  obtain ⟨b0, b1, b2, b3, b4, b5, b6, b7, b8⟩ := y
  simp only [GCoreCore.enc] at h
  obtain ⟨p0, q0⟩ := List.append_inj h (by simp [GConf.enc_len])
  have e0 := Enc.inj (α := GConf) _ _ p0
  obtain ⟨p1, q1⟩ := List.append_inj q0 (rfl)
  have e1 : a1 = b1 := by have := List.head_eq_of_cons_eq p1; injection this
  obtain ⟨p2, q2⟩ := List.append_inj q1 (rfl)
  have e2 : a2 = b2 := by have := List.head_eq_of_cons_eq p2; injection this
  obtain ⟨p3, q3⟩ := List.append_inj q2 (by simp [GCoreState.enc_len])
  have e3 := Enc.inj (α := GCoreState) _ _ p3
  obtain ⟨p4, q4⟩ := List.append_inj q3 (rfl)
  have e4 : a4 = b4 := by have := List.head_eq_of_cons_eq p4; injection this
  obtain ⟨p5, q5⟩ := List.append_inj q4 (rfl)
  have e5 : a5 = b5 := by have := List.head_eq_of_cons_eq p5; injection this
  obtain ⟨p6, q6⟩ := List.append_inj q5 (rfl)
  have e6 : a6 = b6 := by have := List.head_eq_of_cons_eq p6; injection this
  obtain ⟨p7, q7⟩ := List.append_inj q6 (rfl)
  have e7 : a7 = b7 := by have := List.head_eq_of_cons_eq p7; injection this
  have e8 : a8 = b8 := by have := List.head_eq_of_cons_eq q7; injection this
  rw [e0, e1, e2, e3, e4, e5, e6, e7, e8]
instance : Enc GCoreCore where
  n := 110
  enc := GCoreCore.enc
  pos := by omega
  len := GCoreCore.enc_len
  one := GCoreCore.enc_one
  inj := GCoreCore.enc_inj
@[go_sem] theorem GCoreCore.n_eq : Enc.n GCoreCore = 110 := rfl
@[irreducible] def GCoreCore.val (x : GCoreCore) : Value := .agg x.enc.toArray
theorem GCoreCore.val_eq (x : GCoreCore) : GCoreCore.val x = .agg (Enc.enc x).toArray := by unfold GCoreCore.val; rfl
theorem uu201 : Tryz.prog.underlying 201 = some (.struct (Tryz.prog.fieldsOf 201)) := by kernel_rfl
@[go_sem ↓ high] theorem xb_GCoreCore (ρ : Operand → Value) (dst : Option Tmp) (x : Operand) (ty : TypeId) (pos : String) (after : Array Edge) (guard : Option (Nat × Bool)) : execOp ρ { dst, op := .box 201 x, type := ty, pos, after, guard } = (do pure (.value (← gBox 201 (ρ x)))) := ex_box ..
section
variable (w : World)
@[go_sem ↓ high] theorem bx_GCoreCore (x : GCoreCore) : (gBox 201 (GCoreCore.val x)).run Tryz.prog w = .ok (.pointer (some ⟨w.heap.size, 0, none⟩)) (w.alloc (.cells (GCoreCore.enc x).toArray 201)) := by
  rw [GCoreCore.val_eq]; exact run_gBox _ w
end
theorem ds201_0 (x : GCoreCore) : (x.enc.drop 0).take 2 = x.c.enc := by
  unfold GCoreCore.enc
  simp only [List.drop_zero] <;> (rw [List.take_append_of_le_length (by simp [GConf.enc_len])]; exact List.take_of_length_le (by simp [GConf.enc_len]))
theorem lk201_1 (x : GCoreCore) : x.enc[2]? = some (.int .i64 x.epoch) := by
  simp [GCoreCore.enc, List.getElem?_append, GConf.enc_len]
theorem lk201_2 (x : GCoreCore) : x.enc[3]? = some (.int .i64 x.replica) := by
  simp [GCoreCore.enc, List.getElem?_append, GConf.enc_len]
theorem ds201_3 (x : GCoreCore) : (x.enc.drop 4).take 101 = x.s.enc := by
  unfold GCoreCore.enc
  simp [List.drop_append, List.drop_eq_nil_of_le, GConf.enc_len] <;> (rw [List.take_append_of_le_length (by simp [GCoreState.enc_len])]; exact List.take_of_length_le (by simp [GCoreState.enc_len]))
theorem lk201_4 (x : GCoreCore) : x.enc[105]? = some (.pointer x.t) := by
  simp [GCoreCore.enc, List.getElem?_append, GConf.enc_len, GCoreState.enc_len]
theorem lk201_5 (x : GCoreCore) : x.enc[106]? = some (.map x.proposals) := by
  simp [GCoreCore.enc, List.getElem?_append, GConf.enc_len, GCoreState.enc_len]
theorem lk201_6 (x : GCoreCore) : x.enc[107]? = some (.bool x.wasValid) := by
  simp [GCoreCore.enc, List.getElem?_append, GConf.enc_len, GCoreState.enc_len]
theorem lk201_7 (x : GCoreCore) : x.enc[108]? = some (.bool x.setPrevote) := by
  simp [GCoreCore.enc, List.getElem?_append, GConf.enc_len, GCoreState.enc_len]
theorem lk201_8 (x : GCoreCore) : x.enc[109]? = some (.bool x.setPrecommit) := by
  simp [GCoreCore.enc, List.getElem?_append, GConf.enc_len, GCoreState.enc_len]
theorem zr201 : zeroT Tryz.prog 201 = some (.agg (GCoreCore.enc default).toArray) := by kernel_rfl
theorem GCoreCore.at_c {w : World} {a : Addr} {x : GCoreCore} (h : get? GCoreCore w a = some x) : get? GConf w (a.add 0) = some x.c := by
  rw [get?_iff] at h ⊢
  refine h.sub 0 fun j v hv => ?_
  have hd := ds201_0 x
  have hj : j < 2 := by have := (List.getElem?_eq_some_iff.1 hv).1; rwa [Enc.len] at this
  show x.enc[0 + j]? = some v
  rw [← List.getElem?_drop, ← List.getElem?_take_of_lt hj, hd]; exact hv
theorem GCoreCore.at_epoch {w : World} {a : Addr} {x : GCoreCore} (h : get? GCoreCore w a = some x) : w.cell? (a.add 2) = some (.int .i64 x.epoch) := (get?_iff.1 h) _ _ (lk201_1 x)
theorem GCoreCore.at_replica {w : World} {a : Addr} {x : GCoreCore} (h : get? GCoreCore w a = some x) : w.cell? (a.add 3) = some (.int .i64 x.replica) := (get?_iff.1 h) _ _ (lk201_2 x)
theorem GCoreCore.at_s {w : World} {a : Addr} {x : GCoreCore} (h : get? GCoreCore w a = some x) : get? GCoreState w (a.add 4) = some x.s := by
  rw [get?_iff] at h ⊢
  refine h.sub 4 fun j v hv => ?_
  have hd := ds201_3 x
  have hj : j < 101 := by have := (List.getElem?_eq_some_iff.1 hv).1; rwa [Enc.len] at this
  show x.enc[4 + j]? = some v
  rw [← List.getElem?_drop, ← List.getElem?_take_of_lt hj, hd]; exact hv
theorem GCoreCore.at_t {w : World} {a : Addr} {x : GCoreCore} (h : get? GCoreCore w a = some x) : w.cell? (a.add 105) = some (.pointer x.t) := (get?_iff.1 h) _ _ (lk201_4 x)
theorem GCoreCore.at_proposals {w : World} {a : Addr} {x : GCoreCore} (h : get? GCoreCore w a = some x) : w.cell? (a.add 106) = some (.map x.proposals) := (get?_iff.1 h) _ _ (lk201_5 x)
theorem GCoreCore.at_wasValid {w : World} {a : Addr} {x : GCoreCore} (h : get? GCoreCore w a = some x) : w.cell? (a.add 107) = some (.bool x.wasValid) := (get?_iff.1 h) _ _ (lk201_6 x)
theorem GCoreCore.at_setPrevote {w : World} {a : Addr} {x : GCoreCore} (h : get? GCoreCore w a = some x) : w.cell? (a.add 108) = some (.bool x.setPrevote) := (get?_iff.1 h) _ _ (lk201_7 x)
theorem GCoreCore.at_setPrecommit {w : World} {a : Addr} {x : GCoreCore} (h : get? GCoreCore w a = some x) : w.cell? (a.add 109) = some (.bool x.setPrecommit) := (get?_iff.1 h) _ _ (lk201_8 x)
@[go_sem] theorem nw201 (w : World) (n : Nat) (x : GCoreCore) (hn : n = w.heap.size) : get? GCoreCore (w.alloc (.cells (GCoreCore.enc x).toArray 201)) ⟨n, 0, none⟩ = some x := by
  subst hn; exact get?_new 201 x
theorem pl201 : ((Tryz.prog.fieldsOf 201).toList.mapM fun f => (Tryz.prog.info? f.type).map fun i => (f.offset, i.size)) = some [(0, 2), (2, 1), (3, 1), (4, 101), (105, 1), (106, 1), (107, 1), (108, 1), (109, 1)] := by kernel_rfl
theorem fs201_0 (x : GCoreCore) (v : GConf) (rest : List (Nat × Value)) : Instr.fill (fun i => ([(0, 2), (2, 1), (3, 1), (4, 101), (105, 1), (106, 1), (107, 1), (108, 1), (109, 1)] : List (Nat × Nat))[i]?) x.enc.toArray ((0, (v.val)) :: rest) = Instr.fill (fun i => ([(0, 2), (2, 1), (3, 1), (4, 101), (105, 1), (106, 1), (107, 1), (108, 1), (109, 1)] : List (Nat × Nat))[i]?) ({ x with c := v } : GCoreCore).enc.toArray rest := by
  have h := fill_seg [(0, 2), (2, 1), (3, 1), (4, 101), (105, 1), (106, 1), (107, 1), (108, 1), (109, 1)] 0 0 2 rfl (([] : List Value)) (x.c.enc) ([(.int .i64 x.epoch)] ++ ([(.int .i64 x.replica)] ++ (x.s.enc ++ ([(.pointer x.t)] ++ ([(.map x.proposals)] ++ ([(.bool x.wasValid)] ++ ([(.bool x.setPrevote)] ++ ([(.bool x.setPrecommit)] ++ (([] : List Value)))))))))) (v.enc) (v.val) rest (by rw [GConf.val_eq]; rfl) (by simp [GConf.enc_len, GCoreState.enc_len]) (by simp [GConf.enc_len, GCoreState.enc_len]) (by simp [GConf.enc_len, GCoreState.enc_len])
  have e1 : x.enc = (([] : List Value)) ++ (x.c.enc ++ ([(.int .i64 x.epoch)] ++ ([(.int .i64 x.replica)] ++ (x.s.enc ++ ([(.pointer x.t)] ++ ([(.map x.proposals)] ++ ([(.bool x.wasValid)] ++ ([(.bool x.setPrevote)] ++ ([(.bool x.setPrecommit)] ++ (([] : List Value))))))))))) := by simp only [GCoreCore.enc, List.nil_append, List.append_assoc, List.append_nil]
  have e2 : ({ x with c := v } : GCoreCore).enc = (([] : List Value)) ++ (v.enc ++ ([(.int .i64 x.epoch)] ++ ([(.int .i64 x.replica)] ++ (x.s.enc ++ ([(.pointer x.t)] ++ ([(.map x.proposals)] ++ ([(.bool x.wasValid)] ++ ([(.bool x.setPrevote)] ++ ([(.bool x.setPrecommit)] ++ (([] : List Value))))))))))) := by simp only [GCoreCore.enc, List.nil_append, List.append_assoc, List.append_nil]
  rw [e1, e2]; exact h
theorem fs201_1 (x : GCoreCore) (v : Int) (rest : List (Nat × Value)) : Instr.fill (fun i => ([(0, 2), (2, 1), (3, 1), (4, 101), (105, 1), (106, 1), (107, 1), (108, 1), (109, 1)] : List (Nat × Nat))[i]?) x.enc.toArray ((1, (.int .i64 v)) :: rest) = Instr.fill (fun i => ([(0, 2), (2, 1), (3, 1), (4, 101), (105, 1), (106, 1), (107, 1), (108, 1), (109, 1)] : List (Nat × Nat))[i]?) ({ x with epoch := v } : GCoreCore).enc.toArray rest := by
  have h := fill_seg [(0, 2), (2, 1), (3, 1), (4, 101), (105, 1), (106, 1), (107, 1), (108, 1), (109, 1)] 1 2 1 rfl (([] : List Value) ++ (x.c.enc)) ([(.int .i64 x.epoch)]) ([(.int .i64 x.replica)] ++ (x.s.enc ++ ([(.pointer x.t)] ++ ([(.map x.proposals)] ++ ([(.bool x.wasValid)] ++ ([(.bool x.setPrevote)] ++ ([(.bool x.setPrecommit)] ++ (([] : List Value))))))))) ([(.int .i64 v)]) (.int .i64 v) rest (rfl) (by simp [GConf.enc_len, GCoreState.enc_len]) (by simp [GConf.enc_len, GCoreState.enc_len]) (by simp [GConf.enc_len, GCoreState.enc_len])
  have e1 : x.enc = (([] : List Value) ++ (x.c.enc)) ++ ([(.int .i64 x.epoch)] ++ ([(.int .i64 x.replica)] ++ (x.s.enc ++ ([(.pointer x.t)] ++ ([(.map x.proposals)] ++ ([(.bool x.wasValid)] ++ ([(.bool x.setPrevote)] ++ ([(.bool x.setPrecommit)] ++ (([] : List Value)))))))))) := by simp only [GCoreCore.enc, List.nil_append, List.append_assoc, List.append_nil]
  have e2 : ({ x with epoch := v } : GCoreCore).enc = (([] : List Value) ++ (x.c.enc)) ++ ([(.int .i64 v)] ++ ([(.int .i64 x.replica)] ++ (x.s.enc ++ ([(.pointer x.t)] ++ ([(.map x.proposals)] ++ ([(.bool x.wasValid)] ++ ([(.bool x.setPrevote)] ++ ([(.bool x.setPrecommit)] ++ (([] : List Value)))))))))) := by simp only [GCoreCore.enc, List.nil_append, List.append_assoc, List.append_nil]
  rw [e1, e2]; exact h
theorem fs201_2 (x : GCoreCore) (v : Int) (rest : List (Nat × Value)) : Instr.fill (fun i => ([(0, 2), (2, 1), (3, 1), (4, 101), (105, 1), (106, 1), (107, 1), (108, 1), (109, 1)] : List (Nat × Nat))[i]?) x.enc.toArray ((2, (.int .i64 v)) :: rest) = Instr.fill (fun i => ([(0, 2), (2, 1), (3, 1), (4, 101), (105, 1), (106, 1), (107, 1), (108, 1), (109, 1)] : List (Nat × Nat))[i]?) ({ x with replica := v } : GCoreCore).enc.toArray rest := by
  have h := fill_seg [(0, 2), (2, 1), (3, 1), (4, 101), (105, 1), (106, 1), (107, 1), (108, 1), (109, 1)] 2 3 1 rfl (([] : List Value) ++ (x.c.enc ++ ([(.int .i64 x.epoch)]))) ([(.int .i64 x.replica)]) (x.s.enc ++ ([(.pointer x.t)] ++ ([(.map x.proposals)] ++ ([(.bool x.wasValid)] ++ ([(.bool x.setPrevote)] ++ ([(.bool x.setPrecommit)] ++ (([] : List Value)))))))) ([(.int .i64 v)]) (.int .i64 v) rest (rfl) (by simp [GConf.enc_len, GCoreState.enc_len]) (by simp [GConf.enc_len, GCoreState.enc_len]) (by simp [GConf.enc_len, GCoreState.enc_len])
  have e1 : x.enc = (([] : List Value) ++ (x.c.enc ++ ([(.int .i64 x.epoch)]))) ++ ([(.int .i64 x.replica)] ++ (x.s.enc ++ ([(.pointer x.t)] ++ ([(.map x.proposals)] ++ ([(.bool x.wasValid)] ++ ([(.bool x.setPrevote)] ++ ([(.bool x.setPrecommit)] ++ (([] : List Value))))))))) := by simp only [GCoreCore.enc, List.nil_append, List.append_assoc, List.append_nil]
  have e2 : ({ x with replica := v } : GCoreCore).enc = (([] : List Value) ++ (x.c.enc ++ ([(.int .i64 x.epoch)]))) ++ ([(.int .i64 v)] ++ (x.s.enc ++ ([(.pointer x.t)] ++ ([(.map x.proposals)] ++ ([(.bool x.wasValid)] ++ ([(.bool x.setPrevote)] ++ ([(.bool x.setPrecommit)] ++ (([] : List Value))))))))) := by simp only [GCoreCore.enc, List.nil_append, List.append_assoc, List.append_nil]
  rw [e1, e2]; exact h
theorem fs201_3 (x : GCoreCore) (v : GCoreState) (rest : List (Nat × Value)) : Instr.fill (fun i => ([(0, 2), (2, 1), (3, 1), (4, 101), (105, 1), (106, 1), (107, 1), (108, 1), (109, 1)] : List (Nat × Nat))[i]?) x.enc.toArray ((3, (v.val)) :: rest) = Instr.fill (fun i => ([(0, 2), (2, 1), (3, 1), (4, 101), (105, 1), (106, 1), (107, 1), (108, 1), (109, 1)] : List (Nat × Nat))[i]?) ({ x with s := v } : GCoreCore).enc.toArray rest := by
  have h := fill_seg [(0, 2), (2, 1), (3, 1), (4, 101), (105, 1), (106, 1), (107, 1), (108, 1), (109, 1)] 3 4 101 rfl (([] : List Value) ++ (x.c.enc ++ ([(.int .i64 x.epoch)] ++ ([(.int .i64 x.replica)])))) (x.s.enc) ([(.pointer x.t)] ++ ([(.map x.proposals)] ++ ([(.bool x.wasValid)] ++ ([(.bool x.setPrevote)] ++ ([(.bool x.setPrecommit)] ++ (([] : List Value))))))) (v.enc) (v.val) rest (by rw [GCoreState.val_eq]; rfl) (by simp [GConf.enc_len, GCoreState.enc_len]) (by simp [GConf.enc_len, GCoreState.enc_len]) (by simp [GConf.enc_len, GCoreState.enc_len])
  have e1 : x.enc = (([] : List Value) ++ (x.c.enc ++ ([(.int .i64 x.epoch)] ++ ([(.int .i64 x.replica)])))) ++ (x.s.enc ++ ([(.pointer x.t)] ++ ([(.map x.proposals)] ++ ([(.bool x.wasValid)] ++ ([(.bool x.setPrevote)] ++ ([(.bool x.setPrecommit)] ++ (([] : List Value)))))))) := by simp only [GCoreCore.enc, List.nil_append, List.append_assoc, List.append_nil]
  have e2 : ({ x with s := v } : GCoreCore).enc = (([] : List Value) ++ (x.c.enc ++ ([(.int .i64 x.epoch)] ++ ([(.int .i64 x.replica)])))) ++ (v.enc ++ ([(.pointer x.t)] ++ ([(.map x.proposals)] ++ ([(.bool x.wasValid)] ++ ([(.bool x.setPrevote)] ++ ([(.bool x.setPrecommit)] ++ (([] : List Value)))))))) := by simp only [GCoreCore.enc, List.nil_append, List.append_assoc, List.append_nil]
  rw [e1, e2]; exact h
theorem fs201_4 (x : GCoreCore) (v : Option Addr) (rest : List (Nat × Value)) : Instr.fill (fun i => ([(0, 2), (2, 1), (3, 1), (4, 101), (105, 1), (106, 1), (107, 1), (108, 1), (109, 1)] : List (Nat × Nat))[i]?) x.enc.toArray ((4, (.pointer v)) :: rest) = Instr.fill (fun i => ([(0, 2), (2, 1), (3, 1), (4, 101), (105, 1), (106, 1), (107, 1), (108, 1), (109, 1)] : List (Nat × Nat))[i]?) ({ x with t := v } : GCoreCore).enc.toArray rest := by
  have h := fill_seg [(0, 2), (2, 1), (3, 1), (4, 101), (105, 1), (106, 1), (107, 1), (108, 1), (109, 1)] 4 105 1 rfl (([] : List Value) ++ (x.c.enc ++ ([(.int .i64 x.epoch)] ++ ([(.int .i64 x.replica)] ++ (x.s.enc))))) ([(.pointer x.t)]) ([(.map x.proposals)] ++ ([(.bool x.wasValid)] ++ ([(.bool x.setPrevote)] ++ ([(.bool x.setPrecommit)] ++ (([] : List Value)))))) ([(.pointer v)]) (.pointer v) rest (rfl) (by simp [GConf.enc_len, GCoreState.enc_len]) (by simp [GConf.enc_len, GCoreState.enc_len]) (by simp [GConf.enc_len, GCoreState.enc_len])
  have e1 : x.enc = (([] : List Value) ++ (x.c.enc ++ ([(.int .i64 x.epoch)] ++ ([(.int .i64 x.replica)] ++ (x.s.enc))))) ++ ([(.pointer x.t)] ++ ([(.map x.proposals)] ++ ([(.bool x.wasValid)] ++ ([(.bool x.setPrevote)] ++ ([(.bool x.setPrecommit)] ++ (([] : List Value))))))) := by simp only [GCoreCore.enc, List.nil_append, List.append_assoc, List.append_nil]
  have e2 : ({ x with t := v } : GCoreCore).enc = (([] : List Value) ++ (x.c.enc ++ ([(.int .i64 x.epoch)] ++ ([(.int .i64 x.replica)] ++ (x.s.enc))))) ++ ([(.pointer v)] ++ ([(.map x.proposals)] ++ ([(.bool x.wasValid)] ++ ([(.bool x.setPrevote)] ++ ([(.bool x.setPrecommit)] ++ (([] : List Value))))))) := by simp only [GCoreCore.enc, List.nil_append, List.append_assoc, List.append_nil]
  rw [e1, e2]; exact h
theorem fs201_5 (x : GCoreCore) (v : Option Nat) (rest : List (Nat × Value)) : Instr.fill (fun i => ([(0, 2), (2, 1), (3, 1), (4, 101), (105, 1), (106, 1), (107, 1), (108, 1), (109, 1)] : List (Nat × Nat))[i]?) x.enc.toArray ((5, (.map v)) :: rest) = Instr.fill (fun i => ([(0, 2), (2, 1), (3, 1), (4, 101), (105, 1), (106, 1), (107, 1), (108, 1), (109, 1)] : List (Nat × Nat))[i]?) ({ x with proposals := v } : GCoreCore).enc.toArray rest := by
  have h := fill_seg [(0, 2), (2, 1), (3, 1), (4, 101), (105, 1), (106, 1), (107, 1), (108, 1), (109, 1)] 5 106 1 rfl (([] : List Value) ++ (x.c.enc ++ ([(.int .i64 x.epoch)] ++ ([(.int .i64 x.replica)] ++ (x.s.enc ++ ([(.pointer x.t)])))))) ([(.map x.proposals)]) ([(.bool x.wasValid)] ++ ([(.bool x.setPrevote)] ++ ([(.bool x.setPrecommit)] ++ (([] : List Value))))) ([(.map v)]) (.map v) rest (rfl) (by simp [GConf.enc_len, GCoreState.enc_len]) (by simp [GConf.enc_len, GCoreState.enc_len]) (by simp [GConf.enc_len, GCoreState.enc_len])
  have e1 : x.enc = (([] : List Value) ++ (x.c.enc ++ ([(.int .i64 x.epoch)] ++ ([(.int .i64 x.replica)] ++ (x.s.enc ++ ([(.pointer x.t)])))))) ++ ([(.map x.proposals)] ++ ([(.bool x.wasValid)] ++ ([(.bool x.setPrevote)] ++ ([(.bool x.setPrecommit)] ++ (([] : List Value)))))) := by simp only [GCoreCore.enc, List.nil_append, List.append_assoc, List.append_nil]
  have e2 : ({ x with proposals := v } : GCoreCore).enc = (([] : List Value) ++ (x.c.enc ++ ([(.int .i64 x.epoch)] ++ ([(.int .i64 x.replica)] ++ (x.s.enc ++ ([(.pointer x.t)])))))) ++ ([(.map v)] ++ ([(.bool x.wasValid)] ++ ([(.bool x.setPrevote)] ++ ([(.bool x.setPrecommit)] ++ (([] : List Value)))))) := by simp only [GCoreCore.enc, List.nil_append, List.append_assoc, List.append_nil]
  rw [e1, e2]; exact h
@[go_sem ↓ high] theorem xd_GCoreCore (ρ : Operand → Value) (dst : Option Tmp) (ps : Array (Nat × Operand)) (ty : TypeId) (pos : String) (after : Array Edge) (guard : Option (Nat × Bool)) : execOp ρ { dst, op := .build 201 ps, type := ty, pos, after, guard } = (do pure (.value (← gBuild 201 (ps.map fun (i, x) => (i, ρ x))))) := ex_build ..
@[go_sem ↓ high] theorem bd201_0 (w : World) (v0 : GConf) (v1 : Int) (v2 : Int) (v3 : GCoreState) (v4 : Option Addr) (v5 : Option Nat) : (gBuild 201 #[(0, (v0.val)), (1, (.int .i64 v1)), (2, (.int .i64 v2)), (3, (v3.val)), (4, (.pointer v4)), (5, (.map v5))]).run Tryz.prog w = .ok (GCoreCore.val ⟨v0, v1, v2, v3, v4, v5, false, false, false⟩) w := by
  rw [GCoreCore.val_eq]
  refine run_gBuild_of uu201 zr201 pl201 ?_ w
  show Instr.fill _ (GCoreCore.enc default).toArray [(0, (v0.val)), (1, (.int .i64 v1)), (2, (.int .i64 v2)), (3, (v3.val)), (4, (.pointer v4)), (5, (.map v5))] = _
  rw [fs201_0, fs201_1, fs201_2, fs201_3, fs201_4, fs201_5]; rfl

/-! ### gavel/core.Act -/
structure GCoreAct where
  kind : Int
  round : Int
  valid : Int
  hash : GHash
deriving DecidableEq
instance : Inhabited GCoreAct := ⟨⟨0, 0, 0, default⟩⟩
def GCoreAct.enc (x : GCoreAct) : List Value := [(.int .i64 x.kind)] ++ ([(.int .i64 x.round)] ++ ([(.int .i64 x.valid)] ++ (x.hash.enc)))
theorem GCoreAct.enc_len (x : GCoreAct) : x.enc.length = 35 := by simp [GCoreAct.enc, GHash.enc_len]
theorem GCoreAct.enc_one (x : GCoreAct) : ∀ u ∈ x.enc, u.oneCell' = true := by
  intro u hu
  simp only [GCoreAct.enc, List.mem_append, List.mem_singleton] at hu
  rcases hu with hu | hu | hu | hu
  · subst hu; rfl
  · subst hu; rfl
  · subst hu; rfl
  · exact Enc.one (α := GHash) _ _ hu
theorem GCoreAct.enc_inj (x y : GCoreAct) (h : x.enc = y.enc) : x = y := by
  obtain ⟨a0, a1, a2, a3⟩ := x
  obtain ⟨b0, b1, b2, b3⟩ := y
  simp only [GCoreAct.enc] at h
  obtain ⟨p0, q0⟩ := List.append_inj h (rfl)
  have e0 : a0 = b0 := by have := List.head_eq_of_cons_eq p0; injection this
  obtain ⟨p1, q1⟩ := List.append_inj q0 (rfl)
  have e1 : a1 = b1 := by have := List.head_eq_of_cons_eq p1; injection this
  obtain ⟨p2, q2⟩ := List.append_inj q1 (rfl)
  have e2 : a2 = b2 := by have := List.head_eq_of_cons_eq p2; injection this
  have e3 := Enc.inj (α := GHash) _ _ q2
  rw [e0, e1, e2, e3]
instance : Enc GCoreAct where
  n := 35
  enc := GCoreAct.enc
  pos := by omega
  len := GCoreAct.enc_len
  one := GCoreAct.enc_one
  inj := GCoreAct.enc_inj
@[go_sem] theorem GCoreAct.n_eq : Enc.n GCoreAct = 35 := rfl
@[irreducible] def GCoreAct.val (x : GCoreAct) : Value := .agg x.enc.toArray
theorem GCoreAct.val_eq (x : GCoreAct) : GCoreAct.val x = .agg (Enc.enc x).toArray := by unfold GCoreAct.val; rfl
theorem uu193 : Tryz.prog.underlying 193 = some (.struct (Tryz.prog.fieldsOf 193)) := by kernel_rfl
@[go_sem ↓ high] theorem xl_GCoreAct (ρ : Operand → Value) (dst : Option Tmp) (x : Operand) (ty : TypeId) (pos : String) (after : Array Edge) (guard : Option (Nat × Bool)) : execOp ρ { dst, op := .load 193 x, type := ty, pos, after, guard } = (do pure (.value (← gLoad 193 (ρ x)))) := ex_load ..
@[go_sem ↓ high] theorem xs_GCoreAct (ρ : Operand → Value) (dst : Option Tmp) (x y : Operand) (ty : TypeId) (pos : String) (after : Array Edge) (guard : Option (Nat × Bool)) : execOp ρ { dst, op := .store 193 x y, type := ty, pos, after, guard } = (do gStore 193 (ρ x) (ρ y); pure .skip) := ex_store ..
@[go_sem ↓ high] theorem xb_GCoreAct (ρ : Operand → Value) (dst : Option Tmp) (x : Operand) (ty : TypeId) (pos : String) (after : Array Edge) (guard : Option (Nat × Bool)) : execOp ρ { dst, op := .box 193 x, type := ty, pos, after, guard } = (do pure (.value (← gBox 193 (ρ x)))) := ex_box ..
@[go_sem ↓ high] theorem xa_GCoreAct (ρ : Operand → Value) (dst : Option Tmp) (ty : TypeId) (pos : String) (after : Array Edge) (guard : Option (Nat × Bool)) : execOp ρ { dst, op := .alloc 193, type := ty, pos, after, guard } = (do pure (.value (← gAlloc 193))) := ex_alloc ..
theorem ag193 : aggT Tryz.prog 193 = true := by kernel_rfl
theorem sz193 : sizeT Tryz.prog 193 = 35 := by kernel_rfl
section
variable (w : World)
@[go_sem ↓ high] theorem ld_GCoreAct (a : Addr) : (gLoad 193 (.pointer (some a))).run Tryz.prog w = ofOpt ((get? GCoreAct w a).map GCoreAct.val) w (noLoad Tryz.prog 193 a w) := by
  unfold gLoad; exact run_loadAt_opt ag193 sz193 GCoreAct.val GCoreAct.val_eq
@[go_sem ↓ high] theorem st_GCoreAct (a : Addr) (x : GCoreAct) : (gStore 193 (.pointer (some a)) (GCoreAct.val x)).run Tryz.prog w = okU' ((get? GCoreAct w a).isSome && blkFree w a.block) (World.putCells w a (GCoreAct.enc x)) (noStore Tryz.prog 193 (.pointer (some a)) (GCoreAct.val x) w) := run_gStore_any sz193 GCoreAct.val GCoreAct.val_eq w a x
@[go_sem ↓ high] theorem bx_GCoreAct (x : GCoreAct) : (gBox 193 (GCoreAct.val x)).run Tryz.prog w = .ok (.pointer (some ⟨w.heap.size, 0, none⟩)) (w.alloc (.cells (GCoreAct.enc x).toArray 193)) := by
  rw [GCoreAct.val_eq]; exact run_gBox _ w
end
theorem lk193_0 (x : GCoreAct) : x.enc[0]? = some (.int .i64 x.kind) := by
  simp [GCoreAct.enc, List.getElem?_append]
theorem lk193_1 (x : GCoreAct) : x.enc[1]? = some (.int .i64 x.round) := by
  simp [GCoreAct.enc, List.getElem?_append]
theorem lk193_2 (x : GCoreAct) : x.enc[2]? = some (.int .i64 x.valid) := by
  simp [GCoreAct.enc, List.getElem?_append]
theorem ds193_3 (x : GCoreAct) : (x.enc.drop 3).take 32 = x.hash.enc := by
  unfold GCoreAct.enc
  simp [List.drop_append, List.drop_eq_nil_of_le] <;> (exact List.take_of_length_le (by simp [GHash.enc_len]))
theorem zr193 : zeroT Tryz.prog 193 = some (.agg (GCoreAct.enc default).toArray) := by kernel_rfl
@[go_sem ↓ high] theorem al_GCoreAct (w : World) : (gAlloc 193).run Tryz.prog w = .ok (.pointer (some ⟨w.heap.size, 0, none⟩)) (w.alloc (.cells (GCoreAct.enc default).toArray 193)) := run_zero_alloc zr193 w
@[go_sem] theorem pc_GCoreAct (w : World) (n : Nat) (x z : GCoreAct) (hn : n = w.heap.size) : World.putCells (w.alloc (.cells (GCoreAct.enc z).toArray 193)) ⟨n, 0, none⟩ (GCoreAct.enc x) = w.alloc (.cells (GCoreAct.enc x).toArray 193) := putCells_top x z hn
theorem GCoreAct.at_kind {w : World} {a : Addr} {x : GCoreAct} (h : get? GCoreAct w a = some x) : w.cell? (a.add 0) = some (.int .i64 x.kind) := (get?_iff.1 h) _ _ (lk193_0 x)
theorem GCoreAct.at_round {w : World} {a : Addr} {x : GCoreAct} (h : get? GCoreAct w a = some x) : w.cell? (a.add 1) = some (.int .i64 x.round) := (get?_iff.1 h) _ _ (lk193_1 x)
theorem GCoreAct.at_valid {w : World} {a : Addr} {x : GCoreAct} (h : get? GCoreAct w a = some x) : w.cell? (a.add 2) = some (.int .i64 x.valid) := (get?_iff.1 h) _ _ (lk193_2 x)
theorem GCoreAct.at_hash {w : World} {a : Addr} {x : GCoreAct} (h : get? GCoreAct w a = some x) : get? GHash w (a.add 3) = some x.hash := by
  rw [get?_iff] at h ⊢
  refine h.sub 3 fun j v hv => ?_
  have hd := ds193_3 x
  have hj : j < 32 := by have := (List.getElem?_eq_some_iff.1 hv).1; rwa [Enc.len] at this
  show x.enc[3 + j]? = some v
  rw [← List.getElem?_drop, ← List.getElem?_take_of_lt hj, hd]; exact hv
@[go_sem] theorem nw193 (w : World) (n : Nat) (x : GCoreAct) (hn : n = w.heap.size) : get? GCoreAct (w.alloc (.cells (GCoreAct.enc x).toArray 193)) ⟨n, 0, none⟩ = some x := by
  subst hn; exact get?_new 193 x
theorem pl193 : ((Tryz.prog.fieldsOf 193).toList.mapM fun f => (Tryz.prog.info? f.type).map fun i => (f.offset, i.size)) = some [(0, 1), (1, 1), (2, 1), (3, 32)] := by kernel_rfl
theorem fs193_0 (x : GCoreAct) (v : Int) (rest : List (Nat × Value)) : Instr.fill (fun i => ([(0, 1), (1, 1), (2, 1), (3, 32)] : List (Nat × Nat))[i]?) x.enc.toArray ((0, (.int .i64 v)) :: rest) = Instr.fill (fun i => ([(0, 1), (1, 1), (2, 1), (3, 32)] : List (Nat × Nat))[i]?) ({ x with kind := v } : GCoreAct).enc.toArray rest := by
  have h := fill_seg [(0, 1), (1, 1), (2, 1), (3, 32)] 0 0 1 rfl (([] : List Value)) ([(.int .i64 x.kind)]) ([(.int .i64 x.round)] ++ ([(.int .i64 x.valid)] ++ (x.hash.enc ++ (([] : List Value))))) ([(.int .i64 v)]) (.int .i64 v) rest (rfl) (by simp [GHash.enc_len]) (by simp [GHash.enc_len]) (by simp [GHash.enc_len])
  have e1 : x.enc = (([] : List Value)) ++ ([(.int .i64 x.kind)] ++ ([(.int .i64 x.round)] ++ ([(.int .i64 x.valid)] ++ (x.hash.enc ++ (([] : List Value)))))) := by simp only [GCoreAct.enc, List.nil_append, List.append_assoc, List.append_nil]
  have e2 : ({ x with kind := v } : GCoreAct).enc = (([] : List Value)) ++ ([(.int .i64 v)] ++ ([(.int .i64 x.round)] ++ ([(.int .i64 x.valid)] ++ (x.hash.enc ++ (([] : List Value)))))) := by simp only [GCoreAct.enc, List.nil_append, List.append_assoc, List.append_nil]
  rw [e1, e2]; exact h
theorem fs193_1 (x : GCoreAct) (v : Int) (rest : List (Nat × Value)) : Instr.fill (fun i => ([(0, 1), (1, 1), (2, 1), (3, 32)] : List (Nat × Nat))[i]?) x.enc.toArray ((1, (.int .i64 v)) :: rest) = Instr.fill (fun i => ([(0, 1), (1, 1), (2, 1), (3, 32)] : List (Nat × Nat))[i]?) ({ x with round := v } : GCoreAct).enc.toArray rest := by
  have h := fill_seg [(0, 1), (1, 1), (2, 1), (3, 32)] 1 1 1 rfl (([] : List Value) ++ ([(.int .i64 x.kind)])) ([(.int .i64 x.round)]) ([(.int .i64 x.valid)] ++ (x.hash.enc ++ (([] : List Value)))) ([(.int .i64 v)]) (.int .i64 v) rest (rfl) (by simp [GHash.enc_len]) (by simp [GHash.enc_len]) (by simp [GHash.enc_len])
  have e1 : x.enc = (([] : List Value) ++ ([(.int .i64 x.kind)])) ++ ([(.int .i64 x.round)] ++ ([(.int .i64 x.valid)] ++ (x.hash.enc ++ (([] : List Value))))) := by simp only [GCoreAct.enc, List.nil_append, List.append_assoc, List.append_nil]
  have e2 : ({ x with round := v } : GCoreAct).enc = (([] : List Value) ++ ([(.int .i64 x.kind)])) ++ ([(.int .i64 v)] ++ ([(.int .i64 x.valid)] ++ (x.hash.enc ++ (([] : List Value))))) := by simp only [GCoreAct.enc, List.nil_append, List.append_assoc, List.append_nil]
  rw [e1, e2]; exact h
theorem fs193_2 (x : GCoreAct) (v : Int) (rest : List (Nat × Value)) : Instr.fill (fun i => ([(0, 1), (1, 1), (2, 1), (3, 32)] : List (Nat × Nat))[i]?) x.enc.toArray ((2, (.int .i64 v)) :: rest) = Instr.fill (fun i => ([(0, 1), (1, 1), (2, 1), (3, 32)] : List (Nat × Nat))[i]?) ({ x with valid := v } : GCoreAct).enc.toArray rest := by
  have h := fill_seg [(0, 1), (1, 1), (2, 1), (3, 32)] 2 2 1 rfl (([] : List Value) ++ ([(.int .i64 x.kind)] ++ ([(.int .i64 x.round)]))) ([(.int .i64 x.valid)]) (x.hash.enc ++ (([] : List Value))) ([(.int .i64 v)]) (.int .i64 v) rest (rfl) (by simp [GHash.enc_len]) (by simp [GHash.enc_len]) (by simp [GHash.enc_len])
  have e1 : x.enc = (([] : List Value) ++ ([(.int .i64 x.kind)] ++ ([(.int .i64 x.round)]))) ++ ([(.int .i64 x.valid)] ++ (x.hash.enc ++ (([] : List Value)))) := by simp only [GCoreAct.enc, List.nil_append, List.append_assoc, List.append_nil]
  have e2 : ({ x with valid := v } : GCoreAct).enc = (([] : List Value) ++ ([(.int .i64 x.kind)] ++ ([(.int .i64 x.round)]))) ++ ([(.int .i64 v)] ++ (x.hash.enc ++ (([] : List Value)))) := by simp only [GCoreAct.enc, List.nil_append, List.append_assoc, List.append_nil]
  rw [e1, e2]; exact h
theorem fs193_3 (x : GCoreAct) (v : GHash) (rest : List (Nat × Value)) : Instr.fill (fun i => ([(0, 1), (1, 1), (2, 1), (3, 32)] : List (Nat × Nat))[i]?) x.enc.toArray ((3, (v.val)) :: rest) = Instr.fill (fun i => ([(0, 1), (1, 1), (2, 1), (3, 32)] : List (Nat × Nat))[i]?) ({ x with hash := v } : GCoreAct).enc.toArray rest := by
  have h := fill_seg [(0, 1), (1, 1), (2, 1), (3, 32)] 3 3 32 rfl (([] : List Value) ++ ([(.int .i64 x.kind)] ++ ([(.int .i64 x.round)] ++ ([(.int .i64 x.valid)])))) (x.hash.enc) (([] : List Value)) (v.enc) (v.val) rest (by rw [GHash.val_eq]; rfl) (by simp [GHash.enc_len]) (by simp [GHash.enc_len]) (by simp [GHash.enc_len])
  have e1 : x.enc = (([] : List Value) ++ ([(.int .i64 x.kind)] ++ ([(.int .i64 x.round)] ++ ([(.int .i64 x.valid)])))) ++ (x.hash.enc ++ (([] : List Value))) := by simp only [GCoreAct.enc, List.nil_append, List.append_assoc, List.append_nil]
  have e2 : ({ x with hash := v } : GCoreAct).enc = (([] : List Value) ++ ([(.int .i64 x.kind)] ++ ([(.int .i64 x.round)] ++ ([(.int .i64 x.valid)])))) ++ (v.enc ++ (([] : List Value))) := by simp only [GCoreAct.enc, List.nil_append, List.append_assoc, List.append_nil]
  rw [e1, e2]; exact h
@[go_sem ↓ high] theorem xd_GCoreAct (ρ : Operand → Value) (dst : Option Tmp) (ps : Array (Nat × Operand)) (ty : TypeId) (pos : String) (after : Array Edge) (guard : Option (Nat × Bool)) : execOp ρ { dst, op := .build 193 ps, type := ty, pos, after, guard } = (do pure (.value (← gBuild 193 (ps.map fun (i, x) => (i, ρ x))))) := ex_build ..
@[go_sem ↓ high] theorem bd193_0 (w : World) (v0 : Int) (v1 : Int) (v2 : Int) : (gBuild 193 #[(0, (.int .i64 v0)), (1, (.int .i64 v1)), (2, (.int .i64 v2))]).run Tryz.prog w = .ok (GCoreAct.val ⟨v0, v1, v2, default⟩) w := by
  rw [GCoreAct.val_eq]
  refine run_gBuild_of uu193 zr193 pl193 ?_ w
  show Instr.fill _ (GCoreAct.enc default).toArray [(0, (.int .i64 v0)), (1, (.int .i64 v1)), (2, (.int .i64 v2))] = _
  rw [fs193_0, fs193_1, fs193_2]; rfl
@[go_sem ↓ high] theorem bd193_1 (w : World) (v0 : Int) (v1 : Int) (v2 : Int) (v3 : GHash) : (gBuild 193 #[(0, (.int .i64 v0)), (1, (.int .i64 v1)), (2, (.int .i64 v2)), (3, (v3.val))]).run Tryz.prog w = .ok (GCoreAct.val ⟨v0, v1, v2, v3⟩) w := by
  rw [GCoreAct.val_eq]
  refine run_gBuild_of uu193 zr193 pl193 ?_ w
  show Instr.fill _ (GCoreAct.enc default).toArray [(0, (.int .i64 v0)), (1, (.int .i64 v1)), (2, (.int .i64 v2)), (3, (v3.val))] = _
  rw [fs193_0, fs193_1, fs193_2, fs193_3]; rfl
/-! ### gavel/core.proposal -/
structure GCoreProposal where
  valid : Int
  h : GHash
  ok : Bool
deriving DecidableEq
instance : Inhabited GCoreProposal := ⟨⟨0, default, false⟩⟩
def GCoreProposal.enc (x : GCoreProposal) : List Value := [(.int .i64 x.valid)] ++ (x.h.enc ++ ([(.bool x.ok)]))
theorem GCoreProposal.enc_len (x : GCoreProposal) : x.enc.length = 34 := by simp [GCoreProposal.enc, GHash.enc_len]
theorem GCoreProposal.enc_one (x : GCoreProposal) : ∀ u ∈ x.enc, u.oneCell' = true := by
  intro u hu
  simp only [GCoreProposal.enc, List.mem_append, List.mem_singleton] at hu
  rcases hu with hu | hu | hu
  · subst hu; rfl
  · exact Enc.one (α := GHash) _ _ hu
  · subst hu; rfl
theorem GCoreProposal.enc_inj (x y : GCoreProposal) (h : x.enc = y.enc) : x = y := by
  obtain ⟨a0, a1, a2⟩ := x
  obtain ⟨b0, b1, b2⟩ := y
  simp only [GCoreProposal.enc] at h
  obtain ⟨p0, q0⟩ := List.append_inj h (rfl)
  have e0 : a0 = b0 := by have := List.head_eq_of_cons_eq p0; injection this
  obtain ⟨p1, q1⟩ := List.append_inj q0 (by simp [GHash.enc_len])
  have e1 := Enc.inj (α := GHash) _ _ p1
  have e2 : a2 = b2 := by have := List.head_eq_of_cons_eq q1; injection this
  rw [e0, e1, e2]
instance : Enc GCoreProposal where
  n := 34
  enc := GCoreProposal.enc
  pos := by omega
  len := GCoreProposal.enc_len
  one := GCoreProposal.enc_one
  inj := GCoreProposal.enc_inj
@[go_sem] theorem GCoreProposal.n_eq : Enc.n GCoreProposal = 34 := rfl
@[irreducible] def GCoreProposal.val (x : GCoreProposal) : Value := .agg x.enc.toArray
theorem GCoreProposal.val_eq (x : GCoreProposal) : GCoreProposal.val x = .agg (Enc.enc x).toArray := by unfold GCoreProposal.val; rfl
@[go_sem ↓ high] theorem xs_GCoreProposal (ρ : Operand → Value) (dst : Option Tmp) (x y : Operand) (ty : TypeId) (pos : String) (after : Array Edge) (guard : Option (Nat × Bool)) : execOp ρ { dst, op := .store 306 x y, type := ty, pos, after, guard } = (do gStore 306 (ρ x) (ρ y); pure .skip) := ex_store ..
@[go_sem ↓ high] theorem xa_GCoreProposal (ρ : Operand → Value) (dst : Option Tmp) (ty : TypeId) (pos : String) (after : Array Edge) (guard : Option (Nat × Bool)) : execOp ρ { dst, op := .alloc 306, type := ty, pos, after, guard } = (do pure (.value (← gAlloc 306))) := ex_alloc ..
theorem sz306 : sizeT Tryz.prog 306 = 34 := by kernel_rfl
section
variable (w : World)
@[go_sem ↓ high] theorem st_GCoreProposal (a : Addr) (x : GCoreProposal) : (gStore 306 (.pointer (some a)) (GCoreProposal.val x)).run Tryz.prog w = okU' ((get? GCoreProposal w a).isSome && blkFree w a.block) (World.putCells w a (GCoreProposal.enc x)) (noStore Tryz.prog 306 (.pointer (some a)) (GCoreProposal.val x) w) := run_gStore_any sz306 GCoreProposal.val GCoreProposal.val_eq w a x
end
theorem zr306 : zeroT Tryz.prog 306 = some (.agg (GCoreProposal.enc default).toArray) := by kernel_rfl
@[go_sem ↓ high] theorem al_GCoreProposal (w : World) : (gAlloc 306).run Tryz.prog w = .ok (.pointer (some ⟨w.heap.size, 0, none⟩)) (w.alloc (.cells (GCoreProposal.enc default).toArray 306)) := run_zero_alloc zr306 w
/-! ### []core.Act -/
theorem ei126 : ElemI Tryz.prog 126 193 GCoreAct 56 := ⟨by kernel_rfl, by kernel_rfl⟩
@[go_sem ↓ high] theorem xg_126 (ρ : Operand → Value) (dst : Option Tmp) (ps : Array (Nat × Operand)) (ty : TypeId) (pos : String) (after : Array Edge) (guard : Option (Nat × Bool)) : execOp ρ { dst, op := .buildSlice 126 1 ps, type := ty, pos, after, guard } = (do pure (.value (← gBuildSlice 126 1 (ps.map fun (i, x) => (i, ρ x))))) := ex_buildSlice ..
@[go_sem ↓ high] theorem bs_126 (w : World) (x : GCoreAct) : (gBuildSlice 126 1 #[(0, GCoreAct.val x)]).run Tryz.prog w = .ok (.slice (some ⟨w.heap.size, 0, none⟩) 1 1) (w.alloc (.cells (GCoreAct.enc x).toArray 193)) := by
  rw [GCoreAct.val_eq]; exact run_buildSlice_one ei126 (by decide) x w
instance : KEnc GTallyVoter := ⟨GTallyVoter.val, fun a b h => by rw [GTallyVoter.val_eq, GTallyVoter.val_eq] at h; injection h with h; exact Enc.inj _ _ (by simpa using congrArg Array.toList h)⟩
theorem kl341 : KeyLaws Tryz.prog 341 GTallyVoter where
  chk := fun e k w => by
    show (Instr.checkKey e 10000 341 (GTallyVoter.val k)).run Tryz.prog w = _
    rw [GTallyVoter.val_eq]
    rw [run_checkKey_struct e 9999 _ w uu341 nb341, fl341]
    show (chkFs e 9999 k.enc.toArray _).run Tryz.prog w = _
    simp only [chkFs, Sem.run_bind, pt341_0, pt341_1, pt341_2, Result.andThen_ok, run_checkKey_one e 9998 uk3, Sem.run_pure]
  fnd := fnd_struct (fun k k' w => eq_GTallyVoter w 9998 k k') uu341 (fun k k' => by show Instr.sameNow _ (GTallyVoter.val k) (GTallyVoter.val k') = none; rw [GTallyVoter.val_eq, GTallyVoter.val_eq]; rfl)
  same := fun k => by
    show Instr.sameBits 10000 (GTallyVoter.val k) (GTallyVoter.val k) = true
    rw [GTallyVoter.val_eq]
    exact sameBits_cells 9999 _ (Enc.one k) (fun u hu => by
      have hu' : u ∈ k.enc := hu
      unfold GTallyVoter.enc at hu'
      simp only [List.mem_append, List.mem_singleton] at hu'
      rcases hu' with rfl | rfl | rfl <;> exact sameBits_int _ _ _)

/-! ### map[tally.voter]bool -/
theorem um331 : Tryz.prog.underlying 331 = some (.map 341 4) := by kernel_rfl
theorem zv331_4 : zeroT Tryz.prog 4 = some (VEnc.vv (false : Bool)) := by kernel_rfl
@[go_sem ↓ high] theorem xk_331 (ρ : Operand → Value) (dst : Option Tmp) (x y : Operand) (ok : Bool) (ty : TypeId) (pos : String) (after : Array Edge) (guard : Option (Nat × Bool)) : execOp ρ { dst, op := .lookup 331 x y ok, type := ty, pos, after, guard } = (do pure (.value (← gLookup 331 (ρ x) (ρ y) ok))) := ex_lookup ..
@[go_sem ↓ high] theorem xu_331 (ρ : Operand → Value) (dst : Option Tmp) (x y z : Operand) (ty : TypeId) (pos : String) (after : Array Edge) (guard : Option (Nat × Bool)) : execOp ρ { dst, op := .mapUpdate 331 x y z, type := ty, pos, after, guard } = (do gMapUpdate 331 (ρ x) (ρ y) (ρ z); pure .skip) := ex_mapUpdate ..
@[go_sem ↓ high] theorem lk_331 (w : World) (r : Nat) (k : GTallyVoter) : (gLookup 331 (.map (some r)) (GTallyVoter.val k) false).run Tryz.prog w = ofOpt ((mapAt GTallyVoter Bool w r).map fun m => (.bool ((mget m k).getD false))) w (noLookup Tryz.prog 331 (.map (some r)) (GTallyVoter.val k) false w) :=
  run_gLookup kl341 um331 zv331_4 w r k
@[go_sem ↓ high] theorem mu_331 (w : World) (r : Nat) (k : GTallyVoter) (v : Bool) : (gMapUpdate 331 (.map (some r)) (GTallyVoter.val k) (.bool v)).run Tryz.prog w = okU ((mapAt GTallyVoter Bool w r).isSome) (mput Tryz.prog 331 w r k v) (noUpdate Tryz.prog 331 (.map (some r)) (GTallyVoter.val k) (.bool v) w) :=
  run_gMapUpdate kl341 um331 w r k v
instance : KEnc GTallyTurn := ⟨GTallyTurn.val, fun a b h => by rw [GTallyTurn.val_eq, GTallyTurn.val_eq] at h; injection h with h; exact Enc.inj _ _ (by simpa using congrArg Array.toList h)⟩
theorem kl345 : KeyLaws Tryz.prog 345 GTallyTurn where
  chk := fun e k w => by
    show (Instr.checkKey e 10000 345 (GTallyTurn.val k)).run Tryz.prog w = _
    rw [GTallyTurn.val_eq]
    rw [run_checkKey_struct e 9999 _ w uu345 nb345, fl345]
    show (chkFs e 9999 k.enc.toArray _).run Tryz.prog w = _
    simp only [chkFs, Sem.run_bind, pt345_0, pt345_1, Result.andThen_ok, run_checkKey_one e 9998 uk3, Sem.run_pure]
  fnd := fnd_struct (fun k k' w => eq_GTallyTurn w 9998 k k') uu345 (fun k k' => by show Instr.sameNow _ (GTallyTurn.val k) (GTallyTurn.val k') = none; rw [GTallyTurn.val_eq, GTallyTurn.val_eq]; rfl)
  same := fun k => by
    show Instr.sameBits 10000 (GTallyTurn.val k) (GTallyTurn.val k) = true
    rw [GTallyTurn.val_eq]
    exact sameBits_cells 9999 _ (Enc.one k) (fun u hu => by
      have hu' : u ∈ k.enc := hu
      unfold GTallyTurn.enc at hu'
      simp only [List.mem_append, List.mem_singleton] at hu'
      rcases hu' with rfl | rfl <;> exact sameBits_int _ _ _)

/-! ### map[tally.turn]int -/
theorem um333 : Tryz.prog.underlying 333 = some (.map 345 3) := by kernel_rfl
theorem zv333_3 : zeroT Tryz.prog 3 = some (VEnc.vv (0 : Int)) := by kernel_rfl
@[go_sem ↓ high] theorem xk_333 (ρ : Operand → Value) (dst : Option Tmp) (x y : Operand) (ok : Bool) (ty : TypeId) (pos : String) (after : Array Edge) (guard : Option (Nat × Bool)) : execOp ρ { dst, op := .lookup 333 x y ok, type := ty, pos, after, guard } = (do pure (.value (← gLookup 333 (ρ x) (ρ y) ok))) := ex_lookup ..
@[go_sem ↓ high] theorem lk_333 (w : World) (r : Nat) (k : GTallyTurn) : (gLookup 333 (.map (some r)) (GTallyTurn.val k) false).run Tryz.prog w = ofOpt ((mapAt GTallyTurn Int w r).map fun m => (.int .i64 ((mget m k).getD 0))) w (noLookup Tryz.prog 333 (.map (some r)) (GTallyTurn.val k) false w) :=
  run_gLookup kl345 um333 zv333_3 w r k
/-! ### map[int]int -/
theorem um334 : Tryz.prog.underlying 334 = some (.map 3 3) := by kernel_rfl
theorem zv334_3 : zeroT Tryz.prog 3 = some (VEnc.vv (0 : Int)) := by kernel_rfl
@[go_sem ↓ high] theorem xk_334 (ρ : Operand → Value) (dst : Option Tmp) (x y : Operand) (ok : Bool) (ty : TypeId) (pos : String) (after : Array Edge) (guard : Option (Nat × Bool)) : execOp ρ { dst, op := .lookup 334 x y ok, type := ty, pos, after, guard } = (do pure (.value (← gLookup 334 (ρ x) (ρ y) ok))) := ex_lookup ..
@[go_sem ↓ high] theorem xu_334 (ρ : Operand → Value) (dst : Option Tmp) (x y z : Operand) (ty : TypeId) (pos : String) (after : Array Edge) (guard : Option (Nat × Bool)) : execOp ρ { dst, op := .mapUpdate 334 x y z, type := ty, pos, after, guard } = (do gMapUpdate 334 (ρ x) (ρ y) (ρ z); pure .skip) := ex_mapUpdate ..
@[go_sem ↓ high] theorem lo_334 (w : World) (r : Nat) (k : Int) : (gLookup 334 (.map (some r)) (.int .i64 k) true).run Tryz.prog w = ofOpt ((mapAt Int Int w r).map fun m => .tuple #[(.int .i64 ((mget m k).getD 0)), .bool (mget m k).isSome]) w (noLookup Tryz.prog 334 (.map (some r)) (.int .i64 k) true w) :=
  run_gLookup_ok kl3 um334 zv334_3 w r k
@[go_sem ↓ high] theorem mu_334 (w : World) (r : Nat) (k : Int) (v : Int) : (gMapUpdate 334 (.map (some r)) (.int .i64 k) (.int .i64 v)).run Tryz.prog w = okU ((mapAt Int Int w r).isSome) (mput Tryz.prog 334 w r k v) (noUpdate Tryz.prog 334 (.map (some r)) (.int .i64 k) (.int .i64 v) w) :=
  run_gMapUpdate kl3 um334 w r k v
instance : VEnc GCoreProposal := ⟨GCoreProposal.val, fun a b h => by rw [GCoreProposal.val_eq, GCoreProposal.val_eq] at h; injection h with h; exact Enc.inj _ _ (by simpa using congrArg Array.toList h)⟩

/-! ### map[int]core.proposal -/
theorem um199 : Tryz.prog.underlying 199 = some (.map 3 306) := by kernel_rfl
theorem zv199_306 : zeroT Tryz.prog 306 = some (VEnc.vv (default : GCoreProposal)) := by kernel_rfl
@[go_sem ↓ high] theorem xk_199 (ρ : Operand → Value) (dst : Option Tmp) (x y : Operand) (ok : Bool) (ty : TypeId) (pos : String) (after : Array Edge) (guard : Option (Nat × Bool)) : execOp ρ { dst, op := .lookup 199 x y ok, type := ty, pos, after, guard } = (do pure (.value (← gLookup 199 (ρ x) (ρ y) ok))) := ex_lookup ..
@[go_sem ↓ high] theorem lo_199 (w : World) (r : Nat) (k : Int) : (gLookup 199 (.map (some r)) (.int .i64 k) true).run Tryz.prog w = ofOpt ((mapAt Int GCoreProposal w r).map fun m => .tuple #[(GCoreProposal.val ((mget m k).getD default)), .bool (mget m k).isSome]) w (noLookup Tryz.prog 199 (.map (some r)) (.int .i64 k) true w) :=
  run_gLookup_ok kl3 um199 zv199_306 w r k
end Go.Proofs.YtfhhcgldikmejaaGreatDoor
