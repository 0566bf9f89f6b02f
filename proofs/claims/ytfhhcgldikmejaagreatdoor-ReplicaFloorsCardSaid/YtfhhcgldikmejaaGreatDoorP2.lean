/- The struct types of this seat as Lean types, with the runs of single operations over them. Conditions: those named in each theorem. -/
import Derived.Test.YtfhhcgldikmejaaGreatDoorP1
/- The struct types of this seat as Lean types, with the runs of single operations over them. Conditions: those named in each theorem. -/
namespace Go.Proofs.YtfhhcgldikmejaaGreatDoor
open Go Go.RowKit Go.Gv
set_option linter.unusedSimpArgs false

theorem na9 : aggT Tryz.prog 9 = false := by kernel_rfl
theorem us9 : (Tryz.prog.underlying 9).isSome = true := by kernel_rfl
theorem uk9 : Tryz.prog.underlying 9 = some .string := by kernel_rfl
/-! ### gavel/code.Writer -/
structure GCodeWriter where
  b : Hdr
deriving DecidableEq
instance : Inhabited GCodeWriter := ⟨⟨default⟩⟩
def GCodeWriter.enc (x : GCodeWriter) : List Value := [(x.b.val)]
theorem GCodeWriter.enc_len (x : GCodeWriter) : x.enc.length = 1 := by simp [GCodeWriter.enc]
theorem GCodeWriter.enc_one (x : GCodeWriter) : ∀ u ∈ x.enc, u.oneCell' = true := by
  intro u hu
  simp only [GCodeWriter.enc, List.mem_append, List.mem_singleton] at hu
  subst hu; rfl
theorem GCodeWriter.enc_inj (x y : GCodeWriter) (h : x.enc = y.enc) : x = y := by
  obtain ⟨a0⟩ := x
  obtain ⟨b0⟩ := y
  simp only [GCodeWriter.enc] at h
  have e0 : a0 = b0 := Enc.inj (α := Hdr) _ _ h
  rw [e0]
instance : Enc GCodeWriter where
  n := 1
  enc := GCodeWriter.enc
  pos := by omega
  len := GCodeWriter.enc_len
  one := GCodeWriter.enc_one
  inj := GCodeWriter.enc_inj
@[go_sem] theorem GCodeWriter.n_eq : Enc.n GCodeWriter = 1 := rfl
@[irreducible] def GCodeWriter.val (x : GCodeWriter) : Value := .agg x.enc.toArray
theorem GCodeWriter.val_eq (x : GCodeWriter) : GCodeWriter.val x = .agg (Enc.enc x).toArray := by unfold GCodeWriter.val; rfl
@[go_sem ↓ high] theorem xb_GCodeWriter (ρ : Operand → Value) (dst : Option Tmp) (x : Operand) (ty : TypeId) (pos : String) (after : Array Edge) (guard : Option (Nat × Bool)) : execOp ρ { dst, op := .box 350 x, type := ty, pos, after, guard } = (do pure (.value (← gBox 350 (ρ x)))) := ex_box ..
section
variable (w : World)
@[go_sem ↓ high] theorem bx_GCodeWriter (x : GCodeWriter) : (gBox 350 (GCodeWriter.val x)).run Tryz.prog w = .ok (.pointer (some ⟨w.heap.size, 0, none⟩)) (w.alloc (.cells (GCodeWriter.enc x).toArray 350)) := by
  rw [GCodeWriter.val_eq]; exact run_gBox _ w
end
theorem lk350_0 (x : GCodeWriter) : x.enc[0]? = some (x.b.val) := by
  simp [GCodeWriter.enc, List.getElem?_append]
theorem GCodeWriter.at_b {w : World} {a : Addr} {x : GCodeWriter} (h : get? GCodeWriter w a = some x) : w.cell? (a.add 0) = some (x.b.val) := (get?_iff.1 h) _ _ (lk350_0 x)
/-! ### gavel/book.Book -/
structure GBookBook where
  marks : Option Nat
deriving DecidableEq
instance : Inhabited GBookBook := ⟨⟨none⟩⟩
def GBookBook.enc (x : GBookBook) : List Value := [(.map x.marks)]
theorem GBookBook.enc_len (x : GBookBook) : x.enc.length = 1 := by simp [GBookBook.enc]
theorem GBookBook.enc_one (x : GBookBook) : ∀ u ∈ x.enc, u.oneCell' = true := by
  intro u hu
  simp only [GBookBook.enc, List.mem_append, List.mem_singleton] at hu
  subst hu; rfl
theorem GBookBook.enc_inj (x y : GBookBook) (h : x.enc = y.enc) : x = y := by
  obtain ⟨a0⟩ := x
  obtain ⟨b0⟩ := y
  simp only [GBookBook.enc] at h
  have e0 : a0 = b0 := by have := List.head_eq_of_cons_eq h; injection this
  rw [e0]
instance : Enc GBookBook where
  n := 1
  enc := GBookBook.enc
  pos := by omega
  len := GBookBook.enc_len
  one := GBookBook.enc_one
  inj := GBookBook.enc_inj
@[go_sem] theorem GBookBook.n_eq : Enc.n GBookBook = 1 := rfl
@[irreducible] def GBookBook.val (x : GBookBook) : Value := .agg x.enc.toArray
theorem GBookBook.val_eq (x : GBookBook) : GBookBook.val x = .agg (Enc.enc x).toArray := by unfold GBookBook.val; rfl
theorem uu112 : Tryz.prog.underlying 112 = some (.struct (Tryz.prog.fieldsOf 112)) := by kernel_rfl
@[go_sem ↓ high] theorem xb_GBookBook (ρ : Operand → Value) (dst : Option Tmp) (x : Operand) (ty : TypeId) (pos : String) (after : Array Edge) (guard : Option (Nat × Bool)) : execOp ρ { dst, op := .box 112 x, type := ty, pos, after, guard } = (do pure (.value (← gBox 112 (ρ x)))) := ex_box ..
section
variable (w : World)
@[go_sem ↓ high] theorem bx_GBookBook (x : GBookBook) : (gBox 112 (GBookBook.val x)).run Tryz.prog w = .ok (.pointer (some ⟨w.heap.size, 0, none⟩)) (w.alloc (.cells (GBookBook.enc x).toArray 112)) := by
  rw [GBookBook.val_eq]; exact run_gBox _ w
end
theorem lk112_0 (x : GBookBook) : x.enc[0]? = some (.map x.marks) := by
  simp [GBookBook.enc, List.getElem?_append]
theorem zr112 : zeroT Tryz.prog 112 = some (.agg (GBookBook.enc default).toArray) := by kernel_rfl
theorem GBookBook.at_marks {w : World} {a : Addr} {x : GBookBook} (h : get? GBookBook w a = some x) : w.cell? (a.add 0) = some (.map x.marks) := (get?_iff.1 h) _ _ (lk112_0 x)
@[go_sem] theorem nw112 (w : World) (n : Nat) (x : GBookBook) (hn : n = w.heap.size) : get? GBookBook (w.alloc (.cells (GBookBook.enc x).toArray 112)) ⟨n, 0, none⟩ = some x := by
  subst hn; exact get?_new 112 x
theorem pl112 : ((Tryz.prog.fieldsOf 112).toList.mapM fun f => (Tryz.prog.info? f.type).map fun i => (f.offset, i.size)) = some [(0, 1)] := by kernel_rfl
theorem fs112_0 (x : GBookBook) (v : Option Nat) (rest : List (Nat × Value)) : Instr.fill (fun i => ([(0, 1)] : List (Nat × Nat))[i]?) x.enc.toArray ((0, (.map v)) :: rest) = Instr.fill (fun i => ([(0, 1)] : List (Nat × Nat))[i]?) ({ x with marks := v } : GBookBook).enc.toArray rest := by
  have h := fill_seg [(0, 1)] 0 0 1 rfl (([] : List Value)) ([(.map x.marks)]) (([] : List Value)) ([(.map v)]) (.map v) rest (rfl) (by simp) (by simp) (by simp)
  have e1 : x.enc = (([] : List Value)) ++ ([(.map x.marks)] ++ (([] : List Value))) := by simp only [GBookBook.enc, List.nil_append, List.append_assoc, List.append_nil]
  have e2 : ({ x with marks := v } : GBookBook).enc = (([] : List Value)) ++ ([(.map v)] ++ (([] : List Value))) := by simp only [GBookBook.enc, List.nil_append, List.append_assoc, List.append_nil]
  rw [e1, e2]; exact h
@[go_sem ↓ high] theorem xd_GBookBook (ρ : Operand → Value) (dst : Option Tmp) (ps : Array (Nat × Operand)) (ty : TypeId) (pos : String) (after : Array Edge) (guard : Option (Nat × Bool)) : execOp ρ { dst, op := .build 112 ps, type := ty, pos, after, guard } = (do pure (.value (← gBuild 112 (ps.map fun (i, x) => (i, ρ x))))) := ex_build ..
@[go_sem ↓ high] theorem bd112_0 (w : World) (v0 : Option Nat) : (gBuild 112 #[(0, (.map v0))]).run Tryz.prog w = .ok (GBookBook.val ⟨v0⟩) w := by
  rw [GBookBook.val_eq]
  refine run_gBuild_of uu112 zr112 pl112 ?_ w
  show Instr.fill _ (GBookBook.enc default).toArray [(0, (.map v0))] = _
  rw [fs112_0]; rfl

/-! ### gavel/book.signed -/
structure GBookSigned where
  by_ : Int
  text : ByteArray
deriving DecidableEq
instance : Inhabited GBookSigned := ⟨⟨0, ByteArray.empty⟩⟩
def GBookSigned.enc (x : GBookSigned) : List Value := [(.int .i64 x.by_)] ++ ([(.string x.text)])
theorem GBookSigned.enc_len (x : GBookSigned) : x.enc.length = 2 := by simp [GBookSigned.enc]
theorem GBookSigned.enc_one (x : GBookSigned) : ∀ u ∈ x.enc, u.oneCell' = true := by
  intro u hu
  simp only [GBookSigned.enc, List.mem_append, List.mem_singleton] at hu
  rcases hu with hu | hu
  · subst hu; rfl
  · subst hu; rfl
theorem GBookSigned.enc_inj (x y : GBookSigned) (h : x.enc = y.enc) : x = y := by
  obtain ⟨a0, a1⟩ := x
  obtain ⟨b0, b1⟩ := y
  simp only [GBookSigned.enc] at h
  obtain ⟨p0, q0⟩ := List.append_inj h (rfl)
  have e0 : a0 = b0 := by have := List.head_eq_of_cons_eq p0; injection this
  have e1 : a1 = b1 := by have := List.head_eq_of_cons_eq q0; injection this
  rw [e0, e1]
instance : Enc GBookSigned where
  n := 2
  enc := GBookSigned.enc
  pos := by omega
  len := GBookSigned.enc_len
  one := GBookSigned.enc_one
  inj := GBookSigned.enc_inj
@[go_sem] theorem GBookSigned.n_eq : Enc.n GBookSigned = 2 := rfl
@[irreducible] def GBookSigned.val (x : GBookSigned) : Value := .agg x.enc.toArray
theorem GBookSigned.val_eq (x : GBookSigned) : GBookSigned.val x = .agg (Enc.enc x).toArray := by unfold GBookSigned.val; rfl
theorem GBookSigned.ext_all (x y : GBookSigned) : x = y ↔ x.by_ = y.by_ ∧ x.text = y.text := by
  constructor
  · intro h; cases h; simp
  · intro h; cases x; cases y; simp_all
theorem uu109 : Tryz.prog.underlying 109 = some (.struct (Tryz.prog.fieldsOf 109)) := by kernel_rfl
theorem st109 : Tryz.prog.stoodInHeld 109 = false := by kernel_rfl
theorem fl109 : fieldTO Tryz.prog 109 = [(3, 0), (9, 1)] := by kernel_rfl
theorem nb109 : noBlank Tryz.prog 109 = true := by kernel_rfl
@[go_sem ↓ high] theorem xl_GBookSigned (ρ : Operand → Value) (dst : Option Tmp) (x : Operand) (ty : TypeId) (pos : String) (after : Array Edge) (guard : Option (Nat × Bool)) : execOp ρ { dst, op := .load 109 x, type := ty, pos, after, guard } = (do pure (.value (← gLoad 109 (ρ x)))) := ex_load ..
@[go_sem ↓ high] theorem xs_GBookSigned (ρ : Operand → Value) (dst : Option Tmp) (x y : Operand) (ty : TypeId) (pos : String) (after : Array Edge) (guard : Option (Nat × Bool)) : execOp ρ { dst, op := .store 109 x y, type := ty, pos, after, guard } = (do gStore 109 (ρ x) (ρ y); pure .skip) := ex_store ..
@[go_sem ↓ high] theorem xa_GBookSigned (ρ : Operand → Value) (dst : Option Tmp) (ty : TypeId) (pos : String) (after : Array Edge) (guard : Option (Nat × Bool)) : execOp ρ { dst, op := .alloc 109, type := ty, pos, after, guard } = (do pure (.value (← gAlloc 109))) := ex_alloc ..
theorem ag109 : aggT Tryz.prog 109 = true := by kernel_rfl
theorem sz109 : sizeT Tryz.prog 109 = 2 := by kernel_rfl
section
variable (w : World)
@[go_sem ↓ high] theorem ld_GBookSigned (a : Addr) : (gLoad 109 (.pointer (some a))).run Tryz.prog w = ofOpt ((get? GBookSigned w a).map GBookSigned.val) w (noLoad Tryz.prog 109 a w) := by
  unfold gLoad; exact run_loadAt_opt ag109 sz109 GBookSigned.val GBookSigned.val_eq
@[go_sem ↓ high] theorem st_GBookSigned (a : Addr) (x : GBookSigned) : (gStore 109 (.pointer (some a)) (GBookSigned.val x)).run Tryz.prog w = okU' ((get? GBookSigned w a).isSome && blkFree w a.block) (World.putCells w a (GBookSigned.enc x)) (noStore Tryz.prog 109 (.pointer (some a)) (GBookSigned.val x) w) := run_gStore_any sz109 GBookSigned.val GBookSigned.val_eq w a x
end
theorem lk109_0 (x : GBookSigned) : x.enc[0]? = some (.int .i64 x.by_) := by
  simp [GBookSigned.enc, List.getElem?_append]
theorem pt109_0 (w : World) (x : GBookSigned) : (part 3 x.enc.toArray 0).run Tryz.prog w = .ok (.int .i64 x.by_) w := run_part_one na3 us3 (lk109_0 x)
theorem lk109_1 (x : GBookSigned) : x.enc[1]? = some (.string x.text) := by
  simp [GBookSigned.enc, List.getElem?_append]
theorem pt109_1 (w : World) (x : GBookSigned) : (part 9 x.enc.toArray 1).run Tryz.prog w = .ok (.string x.text) w := run_part_one na9 us9 (lk109_1 x)
theorem zr109 : zeroT Tryz.prog 109 = some (.agg (GBookSigned.enc default).toArray) := by kernel_rfl
@[go_sem ↓ high] theorem al_GBookSigned (w : World) : (gAlloc 109).run Tryz.prog w = .ok (.pointer (some ⟨w.heap.size, 0, none⟩)) (w.alloc (.cells (GBookSigned.enc default).toArray 109)) := run_zero_alloc zr109 w
@[go_sem] theorem pc_GBookSigned (w : World) (n : Nat) (x z : GBookSigned) (hn : n = w.heap.size) : World.putCells (w.alloc (.cells (GBookSigned.enc z).toArray 109)) ⟨n, 0, none⟩ (GBookSigned.enc x) = w.alloc (.cells (GBookSigned.enc x).toArray 109) := putCells_top x z hn
@[go_sem] theorem nw109 (w : World) (n : Nat) (x : GBookSigned) (hn : n = w.heap.size) : get? GBookSigned (w.alloc (.cells (GBookSigned.enc x).toArray 109)) ⟨n, 0, none⟩ = some x := by
  subst hn; exact get?_new 109 x
theorem pl109 : ((Tryz.prog.fieldsOf 109).toList.mapM fun f => (Tryz.prog.info? f.type).map fun i => (f.offset, i.size)) = some [(0, 1), (1, 1)] := by kernel_rfl
theorem fs109_0 (x : GBookSigned) (v : Int) (rest : List (Nat × Value)) : Instr.fill (fun i => ([(0, 1), (1, 1)] : List (Nat × Nat))[i]?) x.enc.toArray ((0, (.int .i64 v)) :: rest) = Instr.fill (fun i => ([(0, 1), (1, 1)] : List (Nat × Nat))[i]?) ({ x with by_ := v } : GBookSigned).enc.toArray rest := by
  have h := fill_seg [(0, 1), (1, 1)] 0 0 1 rfl (([] : List Value)) ([(.int .i64 x.by_)]) ([(.string x.text)] ++ (([] : List Value))) ([(.int .i64 v)]) (.int .i64 v) rest (rfl) (by simp) (by simp) (by simp)
  have e1 : x.enc = (([] : List Value)) ++ ([(.int .i64 x.by_)] ++ ([(.string x.text)] ++ (([] : List Value)))) := by simp only [GBookSigned.enc, List.nil_append, List.append_assoc, List.append_nil]
  have e2 : ({ x with by_ := v } : GBookSigned).enc = (([] : List Value)) ++ ([(.int .i64 v)] ++ ([(.string x.text)] ++ (([] : List Value)))) := by simp only [GBookSigned.enc, List.nil_append, List.append_assoc, List.append_nil]
  rw [e1, e2]; exact h
theorem fs109_1 (x : GBookSigned) (v : ByteArray) (rest : List (Nat × Value)) : Instr.fill (fun i => ([(0, 1), (1, 1)] : List (Nat × Nat))[i]?) x.enc.toArray ((1, (.string v)) :: rest) = Instr.fill (fun i => ([(0, 1), (1, 1)] : List (Nat × Nat))[i]?) ({ x with text := v } : GBookSigned).enc.toArray rest := by
  have h := fill_seg [(0, 1), (1, 1)] 1 1 1 rfl (([] : List Value) ++ ([(.int .i64 x.by_)])) ([(.string x.text)]) (([] : List Value)) ([(.string v)]) (.string v) rest (rfl) (by simp) (by simp) (by simp)
  have e1 : x.enc = (([] : List Value) ++ ([(.int .i64 x.by_)])) ++ ([(.string x.text)] ++ (([] : List Value))) := by simp only [GBookSigned.enc, List.nil_append, List.append_assoc, List.append_nil]
  have e2 : ({ x with text := v } : GBookSigned).enc = (([] : List Value) ++ ([(.int .i64 x.by_)])) ++ ([(.string v)] ++ (([] : List Value))) := by simp only [GBookSigned.enc, List.nil_append, List.append_assoc, List.append_nil]
  rw [e1, e2]; exact h
@[go_sem ↓ high] theorem xd_GBookSigned (ρ : Operand → Value) (dst : Option Tmp) (ps : Array (Nat × Operand)) (ty : TypeId) (pos : String) (after : Array Edge) (guard : Option (Nat × Bool)) : execOp ρ { dst, op := .build 109 ps, type := ty, pos, after, guard } = (do pure (.value (← gBuild 109 (ps.map fun (i, x) => (i, ρ x))))) := ex_build ..
@[go_sem ↓ high] theorem bd109_0 (w : World) (v0 : Int) (v1 : ByteArray) : (gBuild 109 #[(0, (.int .i64 v0)), (1, (.string v1))]).run Tryz.prog w = .ok (GBookSigned.val ⟨v0, v1⟩) w := by
  rw [GBookSigned.val_eq]
  refine run_gBuild_of uu109 zr109 pl109 ?_ w
  show Instr.fill _ (GBookSigned.enc default).toArray [(0, (.int .i64 v0)), (1, (.string v1))] = _
  rw [fs109_0, fs109_1]; rfl
theorem eq_GBookSigned (w : World) (d : Nat) (x y : GBookSigned) : (Op.equalIn (d + 2) 109 (GBookSigned.val x) (GBookSigned.val y)).run Tryz.prog w = .ok (decide (x = y)) w := by
  have q0 : ∀ a b, (Op.equalIn (d + 1) 3 (.int .i64 a) (.int .i64 b)).run Tryz.prog w = .ok (decide (a = b)) w := fun a b => by rw [run_equalIn_int w (d + 0) 3 .i64 .i64 a b uk3]; congr 1
  have q1 : ∀ a b, (Op.equalIn (d + 1) 9 (.string a) (.string b)).run Tryz.prog w = .ok (decide (a = b)) w := fun a b => by rw [run_equalIn_string w (d + 0) 9 a b uk9, bytes_beq]
  have h := run_equalIn_fields (d + 1) x.enc.toArray y.enc.toArray w uu109 st109 nb109
  rw [fl109] at h
  unfold GBookSigned.val
  refine h.trans ?_
  clear h
  simp only [eqFs, Sem.run_bind, pt109_0, pt109_1, q0, q1, Result.andThen_ok, Sem.run_ite, Sem.run_pure]
  have he : decide (x = y) = (decide (x.by_ = y.by_) && (decide (x.text = y.text))) := by
    rw [Bool.eq_iff_iff]; simp only [Bool.and_eq_true, decide_eq_true_eq]; exact GBookSigned.ext_all x y
  rw [he]
  generalize decide (x.by_ = y.by_) = c0; generalize decide (x.text = y.text) = c1
  cases c0 <;> cases c1 <;> simp
/-! ### gavel/stamp.Stamper -/
structure GStampStamper where
  c : GConf
  replica : Int
  now : Int
  floor : Int
  last : Int
  stamps : Option Nat
deriving DecidableEq
instance : Inhabited GStampStamper := ⟨⟨default, 0, 0, 0, 0, none⟩⟩
def GStampStamper.enc (x : GStampStamper) : List Value := x.c.enc ++ ([(.int .i64 x.replica)] ++ ([(.int .u64 x.now)] ++ ([(.int .u64 x.floor)] ++ ([(.int .u64 x.last)] ++ ([(.map x.stamps)])))))
theorem GStampStamper.enc_len (x : GStampStamper) : x.enc.length = 7 := by simp [GStampStamper.enc, GConf.enc_len]
theorem GStampStamper.enc_one (x : GStampStamper) : ∀ u ∈ x.enc, u.oneCell' = true := by
  intro u hu
  simp only [GStampStamper.enc, List.mem_append, List.mem_singleton] at hu
  rcases hu with hu | hu | hu | hu | hu | hu
  · exact Enc.one (α := GConf) _ _ hu
  · subst hu; rfl
  · subst hu; rfl
  · subst hu; rfl
  · subst hu; rfl
  · subst hu; rfl
theorem GStampStamper.enc_inj (x y : GStampStamper) (h : x.enc = y.enc) : x = y := by
  obtain ⟨a0, a1, a2, a3, a4, a5⟩ := x
  obtain ⟨b0, b1, b2, b3, b4, b5⟩ := y
  simp only [GStampStamper.enc] at h
  obtain ⟨p0, q0⟩ := List.append_inj h (by simp [GConf.enc_len])
  have e0 := Enc.inj (α := GConf) _ _ p0
  obtain ⟨p1, q1⟩ := List.append_inj q0 (rfl)
  have e1 : a1 = b1 := by have := List.head_eq_of_cons_eq p1; injection this
  obtain ⟨p2, q2⟩ := List.append_inj q1 (rfl)
  have e2 : a2 = b2 := by have := List.head_eq_of_cons_eq p2; injection this
  obtain ⟨p3, q3⟩ := List.append_inj q2 (rfl)
  have e3 : a3 = b3 := by have := List.head_eq_of_cons_eq p3; injection this
  obtain ⟨p4, q4⟩ := List.append_inj q3 (rfl)
  have e4 : a4 = b4 := by have := List.head_eq_of_cons_eq p4; injection this
  have e5 : a5 = b5 := by have := List.head_eq_of_cons_eq q4; injection this
  rw [e0, e1, e2, e3, e4, e5]
instance : Enc GStampStamper where
  n := 7
  enc := GStampStamper.enc
  pos := by omega
  len := GStampStamper.enc_len
  one := GStampStamper.enc_one
  inj := GStampStamper.enc_inj
@[go_sem] theorem GStampStamper.n_eq : Enc.n GStampStamper = 7 := rfl
@[irreducible] def GStampStamper.val (x : GStampStamper) : Value := .agg x.enc.toArray
theorem GStampStamper.val_eq (x : GStampStamper) : GStampStamper.val x = .agg (Enc.enc x).toArray := by unfold GStampStamper.val; rfl
theorem uu158 : Tryz.prog.underlying 158 = some (.struct (Tryz.prog.fieldsOf 158)) := by kernel_rfl
@[go_sem ↓ high] theorem xb_GStampStamper (ρ : Operand → Value) (dst : Option Tmp) (x : Operand) (ty : TypeId) (pos : String) (after : Array Edge) (guard : Option (Nat × Bool)) : execOp ρ { dst, op := .box 158 x, type := ty, pos, after, guard } = (do pure (.value (← gBox 158 (ρ x)))) := ex_box ..
section
variable (w : World)
@[go_sem ↓ high] theorem bx_GStampStamper (x : GStampStamper) : (gBox 158 (GStampStamper.val x)).run Tryz.prog w = .ok (.pointer (some ⟨w.heap.size, 0, none⟩)) (w.alloc (.cells (GStampStamper.enc x).toArray 158)) := by
  rw [GStampStamper.val_eq]; exact run_gBox _ w
end
theorem ds158_0 (x : GStampStamper) : (x.enc.drop 0).take 2 = x.c.enc := by
  unfold GStampStamper.enc
  simp only [List.drop_zero] <;> (rw [List.take_append_of_le_length (by simp [GConf.enc_len])]; exact List.take_of_length_le (by simp [GConf.enc_len]))
theorem lk158_1 (x : GStampStamper) : x.enc[2]? = some (.int .i64 x.replica) := by
  simp [GStampStamper.enc, List.getElem?_append, GConf.enc_len]
theorem lk158_2 (x : GStampStamper) : x.enc[3]? = some (.int .u64 x.now) := by
  simp [GStampStamper.enc, List.getElem?_append, GConf.enc_len]
theorem lk158_3 (x : GStampStamper) : x.enc[4]? = some (.int .u64 x.floor) := by
  simp [GStampStamper.enc, List.getElem?_append, GConf.enc_len]
theorem lk158_4 (x : GStampStamper) : x.enc[5]? = some (.int .u64 x.last) := by
  simp [GStampStamper.enc, List.getElem?_append, GConf.enc_len]
theorem lk158_5 (x : GStampStamper) : x.enc[6]? = some (.map x.stamps) := by
  simp [GStampStamper.enc, List.getElem?_append, GConf.enc_len]
theorem zr158 : zeroT Tryz.prog 158 = some (.agg (GStampStamper.enc default).toArray) := by kernel_rfl
theorem GStampStamper.at_c {w : World} {a : Addr} {x : GStampStamper} (h : get? GStampStamper w a = some x) : get? GConf w (a.add 0) = some x.c := by
  rw [get?_iff] at h ⊢
  refine h.sub 0 fun j v hv => ?_
  have hd := ds158_0 x
  have hj : j < 2 := by have := (List.getElem?_eq_some_iff.1 hv).1; rwa [Enc.len] at this
  show x.enc[0 + j]? = some v
  rw [← List.getElem?_drop, ← List.getElem?_take_of_lt hj, hd]; exact hv
theorem GStampStamper.at_replica {w : World} {a : Addr} {x : GStampStamper} (h : get? GStampStamper w a = some x) : w.cell? (a.add 2) = some (.int .i64 x.replica) := (get?_iff.1 h) _ _ (lk158_1 x)
theorem GStampStamper.at_now {w : World} {a : Addr} {x : GStampStamper} (h : get? GStampStamper w a = some x) : w.cell? (a.add 3) = some (.int .u64 x.now) := (get?_iff.1 h) _ _ (lk158_2 x)
theorem GStampStamper.at_floor {w : World} {a : Addr} {x : GStampStamper} (h : get? GStampStamper w a = some x) : w.cell? (a.add 4) = some (.int .u64 x.floor) := (get?_iff.1 h) _ _ (lk158_3 x)
theorem GStampStamper.at_last {w : World} {a : Addr} {x : GStampStamper} (h : get? GStampStamper w a = some x) : w.cell? (a.add 5) = some (.int .u64 x.last) := (get?_iff.1 h) _ _ (lk158_4 x)
theorem GStampStamper.at_stamps {w : World} {a : Addr} {x : GStampStamper} (h : get? GStampStamper w a = some x) : w.cell? (a.add 6) = some (.map x.stamps) := (get?_iff.1 h) _ _ (lk158_5 x)
@[go_sem] theorem nw158 (w : World) (n : Nat) (x : GStampStamper) (hn : n = w.heap.size) : get? GStampStamper (w.alloc (.cells (GStampStamper.enc x).toArray 158)) ⟨n, 0, none⟩ = some x := by
  subst hn; exact get?_new 158 x
theorem pl158 : ((Tryz.prog.fieldsOf 158).toList.mapM fun f => (Tryz.prog.info? f.type).map fun i => (f.offset, i.size)) = some [(0, 2), (2, 1), (3, 1), (4, 1), (5, 1), (6, 1)] := by kernel_rfl
theorem fs158_0 (x : GStampStamper) (v : GConf) (rest : List (Nat × Value)) : Instr.fill (fun i => ([(0, 2), (2, 1), (3, 1), (4, 1), (5, 1), (6, 1)] : List (Nat × Nat))[i]?) x.enc.toArray ((0, (v.val)) :: rest) = Instr.fill (fun i => ([(0, 2), (2, 1), (3, 1), (4, 1), (5, 1), (6, 1)] : List (Nat × Nat))[i]?) ({ x with c := v } : GStampStamper).enc.toArray rest := by
  have h := fill_seg [(0, 2), (2, 1), (3, 1), (4, 1), (5, 1), (6, 1)] 0 0 2 rfl (([] : List Value)) (x.c.enc) ([(.int .i64 x.replica)] ++ ([(.int .u64 x.now)] ++ ([(.int .u64 x.floor)] ++ ([(.int .u64 x.last)] ++ ([(.map x.stamps)] ++ (([] : List Value))))))) (v.enc) (v.val) rest (by rw [GConf.val_eq]; rfl) (by simp [GConf.enc_len]) (by simp [GConf.enc_len]) (by simp [GConf.enc_len])
  have e1 : x.enc = (([] : List Value)) ++ (x.c.enc ++ ([(.int .i64 x.replica)] ++ ([(.int .u64 x.now)] ++ ([(.int .u64 x.floor)] ++ ([(.int .u64 x.last)] ++ ([(.map x.stamps)] ++ (([] : List Value)))))))) := by simp only [GStampStamper.enc, List.nil_append, List.append_assoc, List.append_nil]
  have e2 : ({ x with c := v } : GStampStamper).enc = (([] : List Value)) ++ (v.enc ++ ([(.int .i64 x.replica)] ++ ([(.int .u64 x.now)] ++ ([(.int .u64 x.floor)] ++ ([(.int .u64 x.last)] ++ ([(.map x.stamps)] ++ (([] : List Value)))))))) := by simp only [GStampStamper.enc, List.nil_append, List.append_assoc, List.append_nil]
  rw [e1, e2]; exact h
theorem fs158_1 (x : GStampStamper) (v : Int) (rest : List (Nat × Value)) : Instr.fill (fun i => ([(0, 2), (2, 1), (3, 1), (4, 1), (5, 1), (6, 1)] : List (Nat × Nat))[i]?) x.enc.toArray ((1, (.int .i64 v)) :: rest) = Instr.fill (fun i => ([(0, 2), (2, 1), (3, 1), (4, 1), (5, 1), (6, 1)] : List (Nat × Nat))[i]?) ({ x with replica := v } : GStampStamper).enc.toArray rest := by
  have h := fill_seg [(0, 2), (2, 1), (3, 1), (4, 1), (5, 1), (6, 1)] 1 2 1 rfl (([] : List Value) ++ (x.c.enc)) ([(.int .i64 x.replica)]) ([(.int .u64 x.now)] ++ ([(.int .u64 x.floor)] ++ ([(.int .u64 x.last)] ++ ([(.map x.stamps)] ++ (([] : List Value)))))) ([(.int .i64 v)]) (.int .i64 v) rest (rfl) (by simp [GConf.enc_len]) (by simp [GConf.enc_len]) (by simp [GConf.enc_len])
  have e1 : x.enc = (([] : List Value) ++ (x.c.enc)) ++ ([(.int .i64 x.replica)] ++ ([(.int .u64 x.now)] ++ ([(.int .u64 x.floor)] ++ ([(.int .u64 x.last)] ++ ([(.map x.stamps)] ++ (([] : List Value))))))) := by simp only [GStampStamper.enc, List.nil_append, List.append_assoc, List.append_nil]
  have e2 : ({ x with replica := v } : GStampStamper).enc = (([] : List Value) ++ (x.c.enc)) ++ ([(.int .i64 v)] ++ ([(.int .u64 x.now)] ++ ([(.int .u64 x.floor)] ++ ([(.int .u64 x.last)] ++ ([(.map x.stamps)] ++ (([] : List Value))))))) := by simp only [GStampStamper.enc, List.nil_append, List.append_assoc, List.append_nil]
  rw [e1, e2]; exact h
theorem fs158_5 (x : GStampStamper) (v : Option Nat) (rest : List (Nat × Value)) : Instr.fill (fun i => ([(0, 2), (2, 1), (3, 1), (4, 1), (5, 1), (6, 1)] : List (Nat × Nat))[i]?) x.enc.toArray ((5, (.map v)) :: rest) = Instr.fill (fun i => ([(0, 2), (2, 1), (3, 1), (4, 1), (5, 1), (6, 1)] : List (Nat × Nat))[i]?) ({ x with stamps := v } : GStampStamper).enc.toArray rest := by
  have h := fill_seg [(0, 2), (2, 1), (3, 1), (4, 1), (5, 1), (6, 1)] 5 6 1 rfl (([] : List Value) ++ (x.c.enc ++ ([(.int .i64 x.replica)] ++ ([(.int .u64 x.now)] ++ ([(.int .u64 x.floor)] ++ ([(.int .u64 x.last)])))))) ([(.map x.stamps)]) (([] : List Value)) ([(.map v)]) (.map v) rest (rfl) (by simp [GConf.enc_len]) (by simp [GConf.enc_len]) (by simp [GConf.enc_len])
  have e1 : x.enc = (([] : List Value) ++ (x.c.enc ++ ([(.int .i64 x.replica)] ++ ([(.int .u64 x.now)] ++ ([(.int .u64 x.floor)] ++ ([(.int .u64 x.last)])))))) ++ ([(.map x.stamps)] ++ (([] : List Value))) := by simp only [GStampStamper.enc, List.nil_append, List.append_assoc, List.append_nil]
  have e2 : ({ x with stamps := v } : GStampStamper).enc = (([] : List Value) ++ (x.c.enc ++ ([(.int .i64 x.replica)] ++ ([(.int .u64 x.now)] ++ ([(.int .u64 x.floor)] ++ ([(.int .u64 x.last)])))))) ++ ([(.map v)] ++ (([] : List Value))) := by simp only [GStampStamper.enc, List.nil_append, List.append_assoc, List.append_nil]
  rw [e1, e2]; exact h
@[go_sem ↓ high] theorem xd_GStampStamper (ρ : Operand → Value) (dst : Option Tmp) (ps : Array (Nat × Operand)) (ty : TypeId) (pos : String) (after : Array Edge) (guard : Option (Nat × Bool)) : execOp ρ { dst, op := .build 158 ps, type := ty, pos, after, guard } = (do pure (.value (← gBuild 158 (ps.map fun (i, x) => (i, ρ x))))) := ex_build ..
@[go_sem ↓ high] theorem bd158_0 (w : World) (v0 : GConf) (v1 : Int) (v5 : Option Nat) : (gBuild 158 #[(0, (v0.val)), (1, (.int .i64 v1)), (5, (.map v5))]).run Tryz.prog w = .ok (GStampStamper.val ⟨v0, v1, 0, 0, 0, v5⟩) w := by
  rw [GStampStamper.val_eq]
  refine run_gBuild_of uu158 zr158 pl158 ?_ w
  show Instr.fill _ (GStampStamper.enc default).toArray [(0, (v0.val)), (1, (.int .i64 v1)), (5, (.map v5))] = _
  rw [fs158_0, fs158_1, fs158_5]; rfl

/-! ### gavel/lock.Table -/
structure GLockTable where
  c : GConf
  replica : Int
  held : Option Nat
deriving DecidableEq
instance : Inhabited GLockTable := ⟨⟨default, 0, none⟩⟩
def GLockTable.enc (x : GLockTable) : List Value := x.c.enc ++ ([(.int .i64 x.replica)] ++ ([(.map x.held)]))
theorem GLockTable.enc_len (x : GLockTable) : x.enc.length = 4 := by simp [GLockTable.enc, GConf.enc_len]
theorem GLockTable.enc_one (x : GLockTable) : ∀ u ∈ x.enc, u.oneCell' = true := by
  intro u hu
  simp only [GLockTable.enc, List.mem_append, List.mem_singleton] at hu
  rcases hu with hu | hu | hu
  · exact Enc.one (α := GConf) _ _ hu
  · subst hu; rfl
  · subst hu; rfl
theorem GLockTable.enc_inj (x y : GLockTable) (h : x.enc = y.enc) : x = y := by
  obtain ⟨a0, a1, a2⟩ := x
  obtain ⟨b0, b1, b2⟩ := y
  simp only [GLockTable.enc] at h
  obtain ⟨p0, q0⟩ := List.append_inj h (by simp [GConf.enc_len])
  have e0 := Enc.inj (α := GConf) _ _ p0
  obtain ⟨p1, q1⟩ := List.append_inj q0 (rfl)
  have e1 : a1 = b1 := by have := List.head_eq_of_cons_eq p1; injection this
  have e2 : a2 = b2 := by have := List.head_eq_of_cons_eq q1; injection this
  rw [e0, e1, e2]
instance : Enc GLockTable where
  n := 4
  enc := GLockTable.enc
  pos := by omega
  len := GLockTable.enc_len
  one := GLockTable.enc_one
  inj := GLockTable.enc_inj
@[go_sem] theorem GLockTable.n_eq : Enc.n GLockTable = 4 := rfl
@[irreducible] def GLockTable.val (x : GLockTable) : Value := .agg x.enc.toArray
theorem GLockTable.val_eq (x : GLockTable) : GLockTable.val x = .agg (Enc.enc x).toArray := by unfold GLockTable.val; rfl
theorem uu175 : Tryz.prog.underlying 175 = some (.struct (Tryz.prog.fieldsOf 175)) := by kernel_rfl
@[go_sem ↓ high] theorem xb_GLockTable (ρ : Operand → Value) (dst : Option Tmp) (x : Operand) (ty : TypeId) (pos : String) (after : Array Edge) (guard : Option (Nat × Bool)) : execOp ρ { dst, op := .box 175 x, type := ty, pos, after, guard } = (do pure (.value (← gBox 175 (ρ x)))) := ex_box ..
section
variable (w : World)
@[go_sem ↓ high] theorem bx_GLockTable (x : GLockTable) : (gBox 175 (GLockTable.val x)).run Tryz.prog w = .ok (.pointer (some ⟨w.heap.size, 0, none⟩)) (w.alloc (.cells (GLockTable.enc x).toArray 175)) := by
  rw [GLockTable.val_eq]; exact run_gBox _ w
end
theorem lk175_1 (x : GLockTable) : x.enc[2]? = some (.int .i64 x.replica) := by
  simp [GLockTable.enc, List.getElem?_append, GConf.enc_len]
theorem lk175_2 (x : GLockTable) : x.enc[3]? = some (.map x.held) := by
  simp [GLockTable.enc, List.getElem?_append, GConf.enc_len]
theorem zr175 : zeroT Tryz.prog 175 = some (.agg (GLockTable.enc default).toArray) := by kernel_rfl
theorem GLockTable.at_replica {w : World} {a : Addr} {x : GLockTable} (h : get? GLockTable w a = some x) : w.cell? (a.add 2) = some (.int .i64 x.replica) := (get?_iff.1 h) _ _ (lk175_1 x)
theorem GLockTable.at_held {w : World} {a : Addr} {x : GLockTable} (h : get? GLockTable w a = some x) : w.cell? (a.add 3) = some (.map x.held) := (get?_iff.1 h) _ _ (lk175_2 x)
@[go_sem] theorem nw175 (w : World) (n : Nat) (x : GLockTable) (hn : n = w.heap.size) : get? GLockTable (w.alloc (.cells (GLockTable.enc x).toArray 175)) ⟨n, 0, none⟩ = some x := by
  subst hn; exact get?_new 175 x
theorem pl175 : ((Tryz.prog.fieldsOf 175).toList.mapM fun f => (Tryz.prog.info? f.type).map fun i => (f.offset, i.size)) = some [(0, 2), (2, 1), (3, 1)] := by kernel_rfl
theorem fs175_0 (x : GLockTable) (v : GConf) (rest : List (Nat × Value)) : Instr.fill (fun i => ([(0, 2), (2, 1), (3, 1)] : List (Nat × Nat))[i]?) x.enc.toArray ((0, (v.val)) :: rest) = Instr.fill (fun i => ([(0, 2), (2, 1), (3, 1)] : List (Nat × Nat))[i]?) ({ x with c := v } : GLockTable).enc.toArray rest := by
  have h := fill_seg [(0, 2), (2, 1), (3, 1)] 0 0 2 rfl (([] : List Value)) (x.c.enc) ([(.int .i64 x.replica)] ++ ([(.map x.held)] ++ (([] : List Value)))) (v.enc) (v.val) rest (by rw [GConf.val_eq]; rfl) (by simp [GConf.enc_len]) (by simp [GConf.enc_len]) (by simp [GConf.enc_len])
  have e1 : x.enc = (([] : List Value)) ++ (x.c.enc ++ ([(.int .i64 x.replica)] ++ ([(.map x.held)] ++ (([] : List Value))))) := by simp only [GLockTable.enc, List.nil_append, List.append_assoc, List.append_nil]
  have e2 : ({ x with c := v } : GLockTable).enc = (([] : List Value)) ++ (v.enc ++ ([(.int .i64 x.replica)] ++ ([(.map x.held)] ++ (([] : List Value))))) := by simp only [GLockTable.enc, List.nil_append, List.append_assoc, List.append_nil]
  rw [e1, e2]; exact h
theorem fs175_1 (x : GLockTable) (v : Int) (rest : List (Nat × Value)) : Instr.fill (fun i => ([(0, 2), (2, 1), (3, 1)] : List (Nat × Nat))[i]?) x.enc.toArray ((1, (.int .i64 v)) :: rest) = Instr.fill (fun i => ([(0, 2), (2, 1), (3, 1)] : List (Nat × Nat))[i]?) ({ x with replica := v } : GLockTable).enc.toArray rest := by
  have h := fill_seg [(0, 2), (2, 1), (3, 1)] 1 2 1 rfl (([] : List Value) ++ (x.c.enc)) ([(.int .i64 x.replica)]) ([(.map x.held)] ++ (([] : List Value))) ([(.int .i64 v)]) (.int .i64 v) rest (rfl) (by simp [GConf.enc_len]) (by simp [GConf.enc_len]) (by simp [GConf.enc_len])
  have e1 : x.enc = (([] : List Value) ++ (x.c.enc)) ++ ([(.int .i64 x.replica)] ++ ([(.map x.held)] ++ (([] : List Value)))) := by simp only [GLockTable.enc, List.nil_append, List.append_assoc, List.append_nil]
  have e2 : ({ x with replica := v } : GLockTable).enc = (([] : List Value) ++ (x.c.enc)) ++ ([(.int .i64 v)] ++ ([(.map x.held)] ++ (([] : List Value)))) := by simp only [GLockTable.enc, List.nil_append, List.append_assoc, List.append_nil]
  rw [e1, e2]; exact h
theorem fs175_2 (x : GLockTable) (v : Option Nat) (rest : List (Nat × Value)) : Instr.fill (fun i => ([(0, 2), (2, 1), (3, 1)] : List (Nat × Nat))[i]?) x.enc.toArray ((2, (.map v)) :: rest) = Instr.fill (fun i => ([(0, 2), (2, 1), (3, 1)] : List (Nat × Nat))[i]?) ({ x with held := v } : GLockTable).enc.toArray rest := by
  have h := fill_seg [(0, 2), (2, 1), (3, 1)] 2 3 1 rfl (([] : List Value) ++ (x.c.enc ++ ([(.int .i64 x.replica)]))) ([(.map x.held)]) (([] : List Value)) ([(.map v)]) (.map v) rest (rfl) (by simp [GConf.enc_len]) (by simp [GConf.enc_len]) (by simp [GConf.enc_len])
  have e1 : x.enc = (([] : List Value) ++ (x.c.enc ++ ([(.int .i64 x.replica)]))) ++ ([(.map x.held)] ++ (([] : List Value))) := by simp only [GLockTable.enc, List.nil_append, List.append_assoc, List.append_nil]
  have e2 : ({ x with held := v } : GLockTable).enc = (([] : List Value) ++ (x.c.enc ++ ([(.int .i64 x.replica)]))) ++ ([(.map v)] ++ (([] : List Value))) := by simp only [GLockTable.enc, List.nil_append, List.append_assoc, List.append_nil]
  rw [e1, e2]; exact h
@[go_sem ↓ high] theorem xd_GLockTable (ρ : Operand → Value) (dst : Option Tmp) (ps : Array (Nat × Operand)) (ty : TypeId) (pos : String) (after : Array Edge) (guard : Option (Nat × Bool)) : execOp ρ { dst, op := .build 175 ps, type := ty, pos, after, guard } = (do pure (.value (← gBuild 175 (ps.map fun (i, x) => (i, ρ x))))) := ex_build ..
@[go_sem ↓ high] theorem bd175_0 (w : World) (v0 : GConf) (v1 : Int) (v2 : Option Nat) : (gBuild 175 #[(0, (v0.val)), (1, (.int .i64 v1)), (2, (.map v2))]).run Tryz.prog w = .ok (GLockTable.val ⟨v0, v1, v2⟩) w := by
  rw [GLockTable.val_eq]
  refine run_gBuild_of uu175 zr175 pl175 ?_ w
  show Instr.fill _ (GLockTable.enc default).toArray [(0, (v0.val)), (1, (.int .i64 v1)), (2, (.map v2))] = _
  rw [fs175_0, fs175_1, fs175_2]; rfl

/-! ### gavel/reveal.Reveal -/
structure GRevealReveal where
  c : GConf
  replica : Int
  m : Option Nat
deriving DecidableEq
instance : Inhabited GRevealReveal := ⟨⟨default, 0, none⟩⟩
def GRevealReveal.enc (x : GRevealReveal) : List Value := x.c.enc ++ ([(.int .i64 x.replica)] ++ ([(.map x.m)]))
theorem GRevealReveal.enc_len (x : GRevealReveal) : x.enc.length = 4 := by simp [GRevealReveal.enc, GConf.enc_len]
theorem GRevealReveal.enc_one (x : GRevealReveal) : ∀ u ∈ x.enc, u.oneCell' = true := by
  intro u hu
  simp only [GRevealReveal.enc, List.mem_append, List.mem_singleton] at hu
  rcases hu with hu | hu | hu
  · exact Enc.one (α := GConf) _ _ hu
  · subst hu; rfl
  · subst hu; rfl
theorem GRevealReveal.enc_inj (x y : GRevealReveal) (h : x.enc = y.enc) : x = y := by
  obtain ⟨a0, a1, a2⟩ := x
  obtain ⟨b0, b1, b2⟩ := y
  simp only [GRevealReveal.enc] at h
  obtain ⟨p0, q0⟩ := List.append_inj h (by simp [GConf.enc_len])
  have e0 := Enc.inj (α := GConf) _ _ p0
  obtain ⟨p1, q1⟩ := List.append_inj q0 (rfl)
  have e1 : a1 = b1 := by have := List.head_eq_of_cons_eq p1; injection this
  have e2 : a2 = b2 := by have := List.head_eq_of_cons_eq q1; injection this
  rw [e0, e1, e2]
instance : Enc GRevealReveal where
  n := 4
  enc := GRevealReveal.enc
  pos := by omega
  len := GRevealReveal.enc_len
  one := GRevealReveal.enc_one
  inj := GRevealReveal.enc_inj
@[go_sem] theorem GRevealReveal.n_eq : Enc.n GRevealReveal = 4 := rfl
@[irreducible] def GRevealReveal.val (x : GRevealReveal) : Value := .agg x.enc.toArray
theorem GRevealReveal.val_eq (x : GRevealReveal) : GRevealReveal.val x = .agg (Enc.enc x).toArray := by unfold GRevealReveal.val; rfl
theorem uu178 : Tryz.prog.underlying 178 = some (.struct (Tryz.prog.fieldsOf 178)) := by kernel_rfl
@[go_sem ↓ high] theorem xb_GRevealReveal (ρ : Operand → Value) (dst : Option Tmp) (x : Operand) (ty : TypeId) (pos : String) (after : Array Edge) (guard : Option (Nat × Bool)) : execOp ρ { dst, op := .box 178 x, type := ty, pos, after, guard } = (do pure (.value (← gBox 178 (ρ x)))) := ex_box ..
section
variable (w : World)
@[go_sem ↓ high] theorem bx_GRevealReveal (x : GRevealReveal) : (gBox 178 (GRevealReveal.val x)).run Tryz.prog w = .ok (.pointer (some ⟨w.heap.size, 0, none⟩)) (w.alloc (.cells (GRevealReveal.enc x).toArray 178)) := by
  rw [GRevealReveal.val_eq]; exact run_gBox _ w
end
theorem lk178_2 (x : GRevealReveal) : x.enc[3]? = some (.map x.m) := by
  simp [GRevealReveal.enc, List.getElem?_append, GConf.enc_len]
theorem zr178 : zeroT Tryz.prog 178 = some (.agg (GRevealReveal.enc default).toArray) := by kernel_rfl
theorem GRevealReveal.at_m {w : World} {a : Addr} {x : GRevealReveal} (h : get? GRevealReveal w a = some x) : w.cell? (a.add 3) = some (.map x.m) := (get?_iff.1 h) _ _ (lk178_2 x)
@[go_sem] theorem nw178 (w : World) (n : Nat) (x : GRevealReveal) (hn : n = w.heap.size) : get? GRevealReveal (w.alloc (.cells (GRevealReveal.enc x).toArray 178)) ⟨n, 0, none⟩ = some x := by
  subst hn; exact get?_new 178 x
theorem pl178 : ((Tryz.prog.fieldsOf 178).toList.mapM fun f => (Tryz.prog.info? f.type).map fun i => (f.offset, i.size)) = some [(0, 2), (2, 1), (3, 1)] := by kernel_rfl
theorem fs178_0 (x : GRevealReveal) (v : GConf) (rest : List (Nat × Value)) : Instr.fill (fun i => ([(0, 2), (2, 1), (3, 1)] : List (Nat × Nat))[i]?) x.enc.toArray ((0, (v.val)) :: rest) = Instr.fill (fun i => ([(0, 2), (2, 1), (3, 1)] : List (Nat × Nat))[i]?) ({ x with c := v } : GRevealReveal).enc.toArray rest := by
  have h := fill_seg [(0, 2), (2, 1), (3, 1)] 0 0 2 rfl (([] : List Value)) (x.c.enc) ([(.int .i64 x.replica)] ++ ([(.map x.m)] ++ (([] : List Value)))) (v.enc) (v.val) rest (by rw [GConf.val_eq]; rfl) (by simp [GConf.enc_len]) (by simp [GConf.enc_len]) (by simp [GConf.enc_len])
  have e1 : x.enc = (([] : List Value)) ++ (x.c.enc ++ ([(.int .i64 x.replica)] ++ ([(.map x.m)] ++ (([] : List Value))))) := by simp only [GRevealReveal.enc, List.nil_append, List.append_assoc, List.append_nil]
  have e2 : ({ x with c := v } : GRevealReveal).enc = (([] : List Value)) ++ (v.enc ++ ([(.int .i64 x.replica)] ++ ([(.map x.m)] ++ (([] : List Value))))) := by simp only [GRevealReveal.enc, List.nil_append, List.append_assoc, List.append_nil]
  rw [e1, e2]; exact h
theorem fs178_1 (x : GRevealReveal) (v : Int) (rest : List (Nat × Value)) : Instr.fill (fun i => ([(0, 2), (2, 1), (3, 1)] : List (Nat × Nat))[i]?) x.enc.toArray ((1, (.int .i64 v)) :: rest) = Instr.fill (fun i => ([(0, 2), (2, 1), (3, 1)] : List (Nat × Nat))[i]?) ({ x with replica := v } : GRevealReveal).enc.toArray rest := by
  have h := fill_seg [(0, 2), (2, 1), (3, 1)] 1 2 1 rfl (([] : List Value) ++ (x.c.enc)) ([(.int .i64 x.replica)]) ([(.map x.m)] ++ (([] : List Value))) ([(.int .i64 v)]) (.int .i64 v) rest (rfl) (by simp [GConf.enc_len]) (by simp [GConf.enc_len]) (by simp [GConf.enc_len])
  have e1 : x.enc = (([] : List Value) ++ (x.c.enc)) ++ ([(.int .i64 x.replica)] ++ ([(.map x.m)] ++ (([] : List Value)))) := by simp only [GRevealReveal.enc, List.nil_append, List.append_assoc, List.append_nil]
  have e2 : ({ x with replica := v } : GRevealReveal).enc = (([] : List Value) ++ (x.c.enc)) ++ ([(.int .i64 v)] ++ ([(.map x.m)] ++ (([] : List Value)))) := by simp only [GRevealReveal.enc, List.nil_append, List.append_assoc, List.append_nil]
  rw [e1, e2]; exact h
theorem fs178_2 (x : GRevealReveal) (v : Option Nat) (rest : List (Nat × Value)) : Instr.fill (fun i => ([(0, 2), (2, 1), (3, 1)] : List (Nat × Nat))[i]?) x.enc.toArray ((2, (.map v)) :: rest) = Instr.fill (fun i => ([(0, 2), (2, 1), (3, 1)] : List (Nat × Nat))[i]?) ({ x with m := v } : GRevealReveal).enc.toArray rest := by
  have h := fill_seg [(0, 2), (2, 1), (3, 1)] 2 3 1 rfl (([] : List Value) ++ (x.c.enc ++ ([(.int .i64 x.replica)]))) ([(.map x.m)]) (([] : List Value)) ([(.map v)]) (.map v) rest (rfl) (by simp [GConf.enc_len]) (by simp [GConf.enc_len]) (by simp [GConf.enc_len])
  have e1 : x.enc = (([] : List Value) ++ (x.c.enc ++ ([(.int .i64 x.replica)]))) ++ ([(.map x.m)] ++ (([] : List Value))) := by simp only [GRevealReveal.enc, List.nil_append, List.append_assoc, List.append_nil]
  have e2 : ({ x with m := v } : GRevealReveal).enc = (([] : List Value) ++ (x.c.enc ++ ([(.int .i64 x.replica)]))) ++ ([(.map v)] ++ (([] : List Value))) := by simp only [GRevealReveal.enc, List.nil_append, List.append_assoc, List.append_nil]
  rw [e1, e2]; exact h
@[go_sem ↓ high] theorem xd_GRevealReveal (ρ : Operand → Value) (dst : Option Tmp) (ps : Array (Nat × Operand)) (ty : TypeId) (pos : String) (after : Array Edge) (guard : Option (Nat × Bool)) : execOp ρ { dst, op := .build 178 ps, type := ty, pos, after, guard } = (do pure (.value (← gBuild 178 (ps.map fun (i, x) => (i, ρ x))))) := ex_build ..
@[go_sem ↓ high] theorem bd178_0 (w : World) (v0 : GConf) (v1 : Int) (v2 : Option Nat) : (gBuild 178 #[(0, (v0.val)), (1, (.int .i64 v1)), (2, (.map v2))]).run Tryz.prog w = .ok (GRevealReveal.val ⟨v0, v1, v2⟩) w := by
  rw [GRevealReveal.val_eq]
  refine run_gBuild_of uu178 zr178 pl178 ?_ w
  show Instr.fill _ (GRevealReveal.enc default).toArray [(0, (v0.val)), (1, (.int .i64 v1)), (2, (.map v2))] = _
  rw [fs178_0, fs178_1, fs178_2]; rfl

/-! ### gavel/reveal.place -/
structure GRevealPlace where
  e : GEntry
  since : Int
  opening : GOpening
  acked : Bool
  denied : Bool
  denies : Option Nat
deriving DecidableEq
instance : Inhabited GRevealPlace := ⟨⟨default, 0, default, false, false, none⟩⟩
def GRevealPlace.enc (x : GRevealPlace) : List Value := x.e.enc ++ ([(.int .u64 x.since)] ++ (x.opening.enc ++ ([(.bool x.acked)] ++ ([(.bool x.denied)] ++ ([(.map x.denies)])))))
theorem GRevealPlace.enc_len (x : GRevealPlace) : x.enc.length = 73 := by simp [GRevealPlace.enc, GEntry.enc_len, GOpening.enc_len]
theorem GRevealPlace.enc_one (x : GRevealPlace) : ∀ u ∈ x.enc, u.oneCell' = true := by
  intro u hu
  simp only [GRevealPlace.enc, List.mem_append, List.mem_singleton] at hu
  rcases hu with hu | hu | hu | hu | hu | hu
  · exact Enc.one (α := GEntry) _ _ hu
  · subst hu; rfl
  · exact Enc.one (α := GOpening) _ _ hu
  · subst hu; rfl
  · subst hu; rfl
  · subst hu; rfl
theorem GRevealPlace.enc_inj (x y : GRevealPlace) (h : x.enc = y.enc) : x = y := by
  obtain ⟨a0, a1, a2, a3, a4, a5⟩ := x
  obtain ⟨b0, b1, b2, b3, b4, b5⟩ := y
  simp only [GRevealPlace.enc] at h
  obtain ⟨p0, q0⟩ := List.append_inj h (by simp [GEntry.enc_len])
  have e0 := Enc.inj (α := GEntry) _ _ p0
  obtain ⟨p1, q1⟩ := List.append_inj q0 (rfl)
  have e1 : a1 = b1 := by have := List.head_eq_of_cons_eq p1; injection this
  obtain ⟨p2, q2⟩ := List.append_inj q1 (by simp [GOpening.enc_len])
  have e2 := Enc.inj (α := GOpening) _ _ p2
  obtain ⟨p3, q3⟩ := List.append_inj q2 (rfl)
  have e3 : a3 = b3 := by have := List.head_eq_of_cons_eq p3; injection this
  obtain ⟨p4, q4⟩ := List.append_inj q3 (rfl)
  have e4 : a4 = b4 := by have := List.head_eq_of_cons_eq p4; injection this
  have e5 : a5 = b5 := by have := List.head_eq_of_cons_eq q4; injection this
  rw [e0, e1, e2, e3, e4, e5]
instance : Enc GRevealPlace where
  n := 73
  enc := GRevealPlace.enc
  pos := by omega
  len := GRevealPlace.enc_len
  one := GRevealPlace.enc_one
  inj := GRevealPlace.enc_inj
@[go_sem] theorem GRevealPlace.n_eq : Enc.n GRevealPlace = 73 := rfl
@[irreducible] def GRevealPlace.val (x : GRevealPlace) : Value := .agg x.enc.toArray
theorem GRevealPlace.val_eq (x : GRevealPlace) : GRevealPlace.val x = .agg (Enc.enc x).toArray := by unfold GRevealPlace.val; rfl
section
variable (w : World)
end
/-! ### []api.Deny -/
instance : KEnc GBookSigned := ⟨GBookSigned.val, fun a b h => by rw [GBookSigned.val_eq, GBookSigned.val_eq] at h; injection h with h; exact Enc.inj _ _ (by simpa using congrArg Array.toList h)⟩
theorem kl109 : KeyLaws Tryz.prog 109 GBookSigned where
  chk := fun e k w => by
    show (Instr.checkKey e 10000 109 (GBookSigned.val k)).run Tryz.prog w = _
    rw [GBookSigned.val_eq]
    rw [run_checkKey_struct e 9999 _ w uu109 nb109, fl109]
    show (chkFs e 9999 k.enc.toArray _).run Tryz.prog w = _
    simp only [chkFs, Sem.run_bind, pt109_0, pt109_1, Result.andThen_ok, run_checkKey_one e 9998 uk3, run_checkKey_str e 9998 uk9, Sem.run_pure]
  fnd := fnd_struct (fun k k' w => eq_GBookSigned w 9998 k k') uu109 (fun k k' => by show Instr.sameNow _ (GBookSigned.val k) (GBookSigned.val k') = none; rw [GBookSigned.val_eq, GBookSigned.val_eq]; rfl)
  same := fun k => by
    show Instr.sameBits 10000 (GBookSigned.val k) (GBookSigned.val k) = true
    rw [GBookSigned.val_eq]
    exact sameBits_cells 9999 _ (Enc.one k) (fun u hu => by
      have hu' : u ∈ k.enc := hu
      unfold GBookSigned.enc at hu'
      simp only [List.mem_append, List.mem_singleton] at hu'
      rcases hu' with hu' | hu'
      · subst hu'; exact sameBits_int _ _ _
      · subst hu'; exact sameBits_str _ _)

/-! ### map[book.signed]int -/
theorem um110 : Tryz.prog.underlying 110 = some (.map 109 3) := by kernel_rfl
theorem zv110_3 : zeroT Tryz.prog 3 = some (VEnc.vv (0 : Int)) := by kernel_rfl
@[go_sem ↓ high] theorem xk_110 (ρ : Operand → Value) (dst : Option Tmp) (x y : Operand) (ok : Bool) (ty : TypeId) (pos : String) (after : Array Edge) (guard : Option (Nat × Bool)) : execOp ρ { dst, op := .lookup 110 x y ok, type := ty, pos, after, guard } = (do pure (.value (← gLookup 110 (ρ x) (ρ y) ok))) := ex_lookup ..
@[go_sem ↓ high] theorem xu_110 (ρ : Operand → Value) (dst : Option Tmp) (x y z : Operand) (ty : TypeId) (pos : String) (after : Array Edge) (guard : Option (Nat × Bool)) : execOp ρ { dst, op := .mapUpdate 110 x y z, type := ty, pos, after, guard } = (do gMapUpdate 110 (ρ x) (ρ y) (ρ z); pure .skip) := ex_mapUpdate ..
@[go_sem ↓ high] theorem lk_110 (w : World) (r : Nat) (k : GBookSigned) : (gLookup 110 (.map (some r)) (GBookSigned.val k) false).run Tryz.prog w = ofOpt ((mapAt GBookSigned Int w r).map fun m => (.int .i64 ((mget m k).getD 0))) w (noLookup Tryz.prog 110 (.map (some r)) (GBookSigned.val k) false w) :=
  run_gLookup kl109 um110 zv110_3 w r k
@[go_sem ↓ high] theorem mu_110 (w : World) (r : Nat) (k : GBookSigned) (v : Int) : (gMapUpdate 110 (.map (some r)) (GBookSigned.val k) (.int .i64 v)).run Tryz.prog w = okU ((mapAt GBookSigned Int w r).isSome) (mput Tryz.prog 110 w r k v) (noUpdate Tryz.prog 110 (.map (some r)) (GBookSigned.val k) (.int .i64 v) w) :=
  run_gMapUpdate kl109 um110 w r k v
instance : VEnc GStamp := ⟨GStamp.val, fun a b h => by rw [GStamp.val_eq, GStamp.val_eq] at h; injection h with h; exact Enc.inj _ _ (by simpa using congrArg Array.toList h)⟩

/-! ### map[api.Name]api.Stamp -/
theorem um156 : Tryz.prog.underlying 156 = some (.map 33 41) := by kernel_rfl
theorem zv156_41 : zeroT Tryz.prog 41 = some (VEnc.vv (default : GStamp)) := by kernel_rfl
@[go_sem ↓ high] theorem xk_156 (ρ : Operand → Value) (dst : Option Tmp) (x y : Operand) (ok : Bool) (ty : TypeId) (pos : String) (after : Array Edge) (guard : Option (Nat × Bool)) : execOp ρ { dst, op := .lookup 156 x y ok, type := ty, pos, after, guard } = (do pure (.value (← gLookup 156 (ρ x) (ρ y) ok))) := ex_lookup ..
@[go_sem ↓ high] theorem lo_156 (w : World) (r : Nat) (k : GName) : (gLookup 156 (.map (some r)) (GName.val k) true).run Tryz.prog w = ofOpt ((mapAt GName GStamp w r).map fun m => .tuple #[(GStamp.val ((mget m k).getD default)), .bool (mget m k).isSome]) w (noLookup Tryz.prog 156 (.map (some r)) (GName.val k) true w) :=
  run_gLookup_ok kl33 um156 zv156_41 w r k
instance : VEnc GCert := ⟨GCert.val, fun a b h => by rw [GCert.val_eq, GCert.val_eq] at h; injection h with h; exact Enc.inj _ _ (by simpa using congrArg Array.toList h)⟩

/-! ### map[api.Name]api.Cert -/
theorem um173 : Tryz.prog.underlying 173 = some (.map 33 44) := by kernel_rfl
theorem kl3 : KeyLaws Tryz.prog 3 Int := keyLaws_int uk3
instance : VEnc GRevealPlace := ⟨GRevealPlace.val, fun a b h => by rw [GRevealPlace.val_eq, GRevealPlace.val_eq] at h; injection h with h; exact Enc.inj _ _ (by simpa using congrArg Array.toList h)⟩

/-! ### map[int]reveal.place -/
theorem um176 : Tryz.prog.underlying 176 = some (.map 3 208) := by kernel_rfl
end Go.Proofs.YtfhhcgldikmejaaGreatDoor
/- The struct types of this seat as Lean types, with the runs of single operations over them. Conditions: those named in each theorem. -/
namespace Go.Proofs.YtfhhcgldikmejaaGreatDoor
open Go Go.RowKit Go.Gv
set_option linter.unusedSimpArgs false

/-! ### gavel/tally.Tally -/
structure GTallyTally where
  c : GConf
  have_ : Option Nat
  count : Option Nat
  all : Option Nat
  last : Option Nat
deriving DecidableEq
instance : Inhabited GTallyTally := ⟨⟨default, none, none, none, none⟩⟩
def GTallyTally.enc (x : GTallyTally) : List Value := x.c.enc ++ ([(.map x.have_)] ++ ([(.map x.count)] ++ ([(.map x.all)] ++ ([(.map x.last)]))))
theorem GTallyTally.enc_len (x : GTallyTally) : x.enc.length = 6 := by simp [GTallyTally.enc, GConf.enc_len]
theorem GTallyTally.enc_one (x : GTallyTally) : ∀ u ∈ x.enc, u.oneCell' = true := by
  intro u hu
  simp only [GTallyTally.enc, List.mem_append, List.mem_singleton] at hu
  rcases hu with hu | hu | hu | hu | hu
  · exact Enc.one (α := GConf) _ _ hu
  · subst hu; rfl
  · subst hu; rfl
  · subst hu; rfl
  · subst hu; rfl
theorem GTallyTally.enc_inj (x y : GTallyTally) (h : x.enc = y.enc) : x = y := by
  obtain ⟨a0, a1, a2, a3, a4⟩ := x
  obtain ⟨b0, b1, b2, b3, b4⟩ := y
  simp only [GTallyTally.enc] at h
  obtain ⟨p0, q0⟩ := List.append_inj h (by simp [GConf.enc_len])
  have e0 := Enc.inj (α := GConf) _ _ p0
  obtain ⟨p1, q1⟩ := List.append_inj q0 (rfl)
  have e1 : a1 = b1 := by have := List.head_eq_of_cons_eq p1; injection this
  obtain ⟨p2, q2⟩ := List.append_inj q1 (rfl)
  have e2 : a2 = b2 := by have := List.head_eq_of_cons_eq p2; injection this
  obtain ⟨p3, q3⟩ := List.append_inj q2 (rfl)
  have e3 : a3 = b3 := by have := List.head_eq_of_cons_eq p3; injection this
  have e4 : a4 = b4 := by have := List.head_eq_of_cons_eq q3; injection this
  rw [e0, e1, e2, e3, e4]
instance : Enc GTallyTally where
  n := 6
  enc := GTallyTally.enc
  pos := by omega
  len := GTallyTally.enc_len
  one := GTallyTally.enc_one
  inj := GTallyTally.enc_inj
@[go_sem] theorem GTallyTally.n_eq : Enc.n GTallyTally = 6 := rfl
@[irreducible] def GTallyTally.val (x : GTallyTally) : Value := .agg x.enc.toArray
theorem GTallyTally.val_eq (x : GTallyTally) : GTallyTally.val x = .agg (Enc.enc x).toArray := by unfold GTallyTally.val; rfl
theorem uu336 : Tryz.prog.underlying 336 = some (.struct (Tryz.prog.fieldsOf 336)) := by kernel_rfl
@[go_sem ↓ high] theorem xb_GTallyTally (ρ : Operand → Value) (dst : Option Tmp) (x : Operand) (ty : TypeId) (pos : String) (after : Array Edge) (guard : Option (Nat × Bool)) : execOp ρ { dst, op := .box 336 x, type := ty, pos, after, guard } = (do pure (.value (← gBox 336 (ρ x)))) := ex_box ..
section
variable (w : World)
@[go_sem ↓ high] theorem bx_GTallyTally (x : GTallyTally) : (gBox 336 (GTallyTally.val x)).run Tryz.prog w = .ok (.pointer (some ⟨w.heap.size, 0, none⟩)) (w.alloc (.cells (GTallyTally.enc x).toArray 336)) := by
  rw [GTallyTally.val_eq]; exact run_gBox _ w
end
theorem lk336_3 (x : GTallyTally) : x.enc[4]? = some (.map x.all) := by
  simp [GTallyTally.enc, List.getElem?_append, GConf.enc_len]
theorem lk336_4 (x : GTallyTally) : x.enc[5]? = some (.map x.last) := by
  simp [GTallyTally.enc, List.getElem?_append, GConf.enc_len]
theorem zr336 : zeroT Tryz.prog 336 = some (.agg (GTallyTally.enc default).toArray) := by kernel_rfl
theorem GTallyTally.at_all {w : World} {a : Addr} {x : GTallyTally} (h : get? GTallyTally w a = some x) : w.cell? (a.add 4) = some (.map x.all) := (get?_iff.1 h) _ _ (lk336_3 x)
theorem GTallyTally.at_last {w : World} {a : Addr} {x : GTallyTally} (h : get? GTallyTally w a = some x) : w.cell? (a.add 5) = some (.map x.last) := (get?_iff.1 h) _ _ (lk336_4 x)
@[go_sem] theorem nw336 (w : World) (n : Nat) (x : GTallyTally) (hn : n = w.heap.size) : get? GTallyTally (w.alloc (.cells (GTallyTally.enc x).toArray 336)) ⟨n, 0, none⟩ = some x := by
  subst hn; exact get?_new 336 x
theorem pl336 : ((Tryz.prog.fieldsOf 336).toList.mapM fun f => (Tryz.prog.info? f.type).map fun i => (f.offset, i.size)) = some [(0, 2), (2, 1), (3, 1), (4, 1), (5, 1)] := by kernel_rfl
theorem fs336_0 (x : GTallyTally) (v : GConf) (rest : List (Nat × Value)) : Instr.fill (fun i => ([(0, 2), (2, 1), (3, 1), (4, 1), (5, 1)] : List (Nat × Nat))[i]?) x.enc.toArray ((0, (v.val)) :: rest) = Instr.fill (fun i => ([(0, 2), (2, 1), (3, 1), (4, 1), (5, 1)] : List (Nat × Nat))[i]?) ({ x with c := v } : GTallyTally).enc.toArray rest := by
  have h := fill_seg [(0, 2), (2, 1), (3, 1), (4, 1), (5, 1)] 0 0 2 rfl (([] : List Value)) (x.c.enc) ([(.map x.have_)] ++ ([(.map x.count)] ++ ([(.map x.all)] ++ ([(.map x.last)] ++ (([] : List Value)))))) (v.enc) (v.val) rest (by rw [GConf.val_eq]; rfl) (by simp [GConf.enc_len]) (by simp [GConf.enc_len]) (by simp [GConf.enc_len])
  have e1 : x.enc = (([] : List Value)) ++ (x.c.enc ++ ([(.map x.have_)] ++ ([(.map x.count)] ++ ([(.map x.all)] ++ ([(.map x.last)] ++ (([] : List Value))))))) := by simp only [GTallyTally.enc, List.nil_append, List.append_assoc, List.append_nil]
  have e2 : ({ x with c := v } : GTallyTally).enc = (([] : List Value)) ++ (v.enc ++ ([(.map x.have_)] ++ ([(.map x.count)] ++ ([(.map x.all)] ++ ([(.map x.last)] ++ (([] : List Value))))))) := by simp only [GTallyTally.enc, List.nil_append, List.append_assoc, List.append_nil]
  rw [e1, e2]; exact h
theorem fs336_1 (x : GTallyTally) (v : Option Nat) (rest : List (Nat × Value)) : Instr.fill (fun i => ([(0, 2), (2, 1), (3, 1), (4, 1), (5, 1)] : List (Nat × Nat))[i]?) x.enc.toArray ((1, (.map v)) :: rest) = Instr.fill (fun i => ([(0, 2), (2, 1), (3, 1), (4, 1), (5, 1)] : List (Nat × Nat))[i]?) ({ x with have_ := v } : GTallyTally).enc.toArray rest := by
  have h := fill_seg [(0, 2), (2, 1), (3, 1), (4, 1), (5, 1)] 1 2 1 rfl (([] : List Value) ++ (x.c.enc)) ([(.map x.have_)]) ([(.map x.count)] ++ ([(.map x.all)] ++ ([(.map x.last)] ++ (([] : List Value))))) ([(.map v)]) (.map v) rest (rfl) (by simp [GConf.enc_len]) (by simp [GConf.enc_len]) (by simp [GConf.enc_len])
  have e1 : x.enc = (([] : List Value) ++ (x.c.enc)) ++ ([(.map x.have_)] ++ ([(.map x.count)] ++ ([(.map x.all)] ++ ([(.map x.last)] ++ (([] : List Value)))))) := by simp only [GTallyTally.enc, List.nil_append, List.append_assoc, List.append_nil]
  have e2 : ({ x with have_ := v } : GTallyTally).enc = (([] : List Value) ++ (x.c.enc)) ++ ([(.map v)] ++ ([(.map x.count)] ++ ([(.map x.all)] ++ ([(.map x.last)] ++ (([] : List Value)))))) := by simp only [GTallyTally.enc, List.nil_append, List.append_assoc, List.append_nil]
  rw [e1, e2]; exact h
theorem fs336_2 (x : GTallyTally) (v : Option Nat) (rest : List (Nat × Value)) : Instr.fill (fun i => ([(0, 2), (2, 1), (3, 1), (4, 1), (5, 1)] : List (Nat × Nat))[i]?) x.enc.toArray ((2, (.map v)) :: rest) = Instr.fill (fun i => ([(0, 2), (2, 1), (3, 1), (4, 1), (5, 1)] : List (Nat × Nat))[i]?) ({ x with count := v } : GTallyTally).enc.toArray rest := by
  have h := fill_seg [(0, 2), (2, 1), (3, 1), (4, 1), (5, 1)] 2 3 1 rfl (([] : List Value) ++ (x.c.enc ++ ([(.map x.have_)]))) ([(.map x.count)]) ([(.map x.all)] ++ ([(.map x.last)] ++ (([] : List Value)))) ([(.map v)]) (.map v) rest (rfl) (by simp [GConf.enc_len]) (by simp [GConf.enc_len]) (by simp [GConf.enc_len])
  have e1 : x.enc = (([] : List Value) ++ (x.c.enc ++ ([(.map x.have_)]))) ++ ([(.map x.count)] ++ ([(.map x.all)] ++ ([(.map x.last)] ++ (([] : List Value))))) := by simp only [GTallyTally.enc, List.nil_append, List.append_assoc, List.append_nil]
  have e2 : ({ x with count := v } : GTallyTally).enc = (([] : List Value) ++ (x.c.enc ++ ([(.map x.have_)]))) ++ ([(.map v)] ++ ([(.map x.all)] ++ ([(.map x.last)] ++ (([] : List Value))))) := by simp only [GTallyTally.enc, List.nil_append, List.append_assoc, List.append_nil]
  rw [e1, e2]; exact h
theorem fs336_3 (x : GTallyTally) (v : Option Nat) (rest : List (Nat × Value)) : Instr.fill (fun i => ([(0, 2), (2, 1), (3, 1), (4, 1), (5, 1)] : List (Nat × Nat))[i]?) x.enc.toArray ((3, (.map v)) :: rest) = Instr.fill (fun i => ([(0, 2), (2, 1), (3, 1), (4, 1), (5, 1)] : List (Nat × Nat))[i]?) ({ x with all := v } : GTallyTally).enc.toArray rest := by
  have h := fill_seg [(0, 2), (2, 1), (3, 1), (4, 1), (5, 1)] 3 4 1 rfl (([] : List Value) ++ (x.c.enc ++ ([(.map x.have_)] ++ ([(.map x.count)])))) ([(.map x.all)]) ([(.map x.last)] ++ (([] : List Value))) ([(.map v)]) (.map v) rest (rfl) (by simp [GConf.enc_len]) (by simp [GConf.enc_len]) (by simp [GConf.enc_len])
  have e1 : x.enc = (([] : List Value) ++ (x.c.enc ++ ([(.map x.have_)] ++ ([(.map x.count)])))) ++ ([(.map x.all)] ++ ([(.map x.last)] ++ (([] : List Value)))) := by simp only [GTallyTally.enc, List.nil_append, List.append_assoc, List.append_nil]
  have e2 : ({ x with all := v } : GTallyTally).enc = (([] : List Value) ++ (x.c.enc ++ ([(.map x.have_)] ++ ([(.map x.count)])))) ++ ([(.map v)] ++ ([(.map x.last)] ++ (([] : List Value)))) := by simp only [GTallyTally.enc, List.nil_append, List.append_assoc, List.append_nil]
  rw [e1, e2]; exact h
theorem fs336_4 (x : GTallyTally) (v : Option Nat) (rest : List (Nat × Value)) : Instr.fill (fun i => ([(0, 2), (2, 1), (3, 1), (4, 1), (5, 1)] : List (Nat × Nat))[i]?) x.enc.toArray ((4, (.map v)) :: rest) = Instr.fill (fun i => ([(0, 2), (2, 1), (3, 1), (4, 1), (5, 1)] : List (Nat × Nat))[i]?) ({ x with last := v } : GTallyTally).enc.toArray rest := by
  have h := fill_seg [(0, 2), (2, 1), (3, 1), (4, 1), (5, 1)] 4 5 1 rfl (([] : List Value) ++ (x.c.enc ++ ([(.map x.have_)] ++ ([(.map x.count)] ++ ([(.map x.all)]))))) ([(.map x.last)]) (([] : List Value)) ([(.map v)]) (.map v) rest (rfl) (by simp [GConf.enc_len]) (by simp [GConf.enc_len]) (by simp [GConf.enc_len])
  have e1 : x.enc = (([] : List Value) ++ (x.c.enc ++ ([(.map x.have_)] ++ ([(.map x.count)] ++ ([(.map x.all)]))))) ++ ([(.map x.last)] ++ (([] : List Value))) := by simp only [GTallyTally.enc, List.nil_append, List.append_assoc, List.append_nil]
  have e2 : ({ x with last := v } : GTallyTally).enc = (([] : List Value) ++ (x.c.enc ++ ([(.map x.have_)] ++ ([(.map x.count)] ++ ([(.map x.all)]))))) ++ ([(.map v)] ++ (([] : List Value))) := by simp only [GTallyTally.enc, List.nil_append, List.append_assoc, List.append_nil]
  rw [e1, e2]; exact h
@[go_sem ↓ high] theorem xd_GTallyTally (ρ : Operand → Value) (dst : Option Tmp) (ps : Array (Nat × Operand)) (ty : TypeId) (pos : String) (after : Array Edge) (guard : Option (Nat × Bool)) : execOp ρ { dst, op := .build 336 ps, type := ty, pos, after, guard } = (do pure (.value (← gBuild 336 (ps.map fun (i, x) => (i, ρ x))))) := ex_build ..
@[go_sem ↓ high] theorem bd336_0 (w : World) (v0 : GConf) (v1 : Option Nat) (v2 : Option Nat) (v3 : Option Nat) (v4 : Option Nat) : (gBuild 336 #[(0, (v0.val)), (1, (.map v1)), (2, (.map v2)), (3, (.map v3)), (4, (.map v4))]).run Tryz.prog w = .ok (GTallyTally.val ⟨v0, v1, v2, v3, v4⟩) w := by
  rw [GTallyTally.val_eq]
  refine run_gBuild_of uu336 zr336 pl336 ?_ w
  show Instr.fill _ (GTallyTally.enc default).toArray [(0, (v0.val)), (1, (.map v1)), (2, (.map v2)), (3, (.map v3)), (4, (.map v4))] = _
  rw [fs336_0, fs336_1, fs336_2, fs336_3, fs336_4]; rfl

/-! ### gavel/tally.voter -/
structure GTallyVoter where
  kind : Int
  round : Int
  replica : Int
deriving DecidableEq
instance : Inhabited GTallyVoter := ⟨⟨0, 0, 0⟩⟩
def GTallyVoter.enc (x : GTallyVoter) : List Value := [(.int .i64 x.kind)] ++ ([(.int .i64 x.round)] ++ ([(.int .i64 x.replica)]))
theorem GTallyVoter.enc_len (x : GTallyVoter) : x.enc.length = 3 := by simp [GTallyVoter.enc]
theorem GTallyVoter.enc_one (x : GTallyVoter) : ∀ u ∈ x.enc, u.oneCell' = true := by
  intro u hu
  simp only [GTallyVoter.enc, List.mem_append, List.mem_singleton] at hu
  rcases hu with hu | hu | hu
  · subst hu; rfl
  · subst hu; rfl
  · subst hu; rfl
theorem GTallyVoter.enc_inj (x y : GTallyVoter) (h : x.enc = y.enc) : x = y := by
  obtain ⟨a0, a1, a2⟩ := x
  obtain ⟨b0, b1, b2⟩ := y
  simp only [GTallyVoter.enc] at h
  obtain ⟨p0, q0⟩ := List.append_inj h (rfl)
  have e0 : a0 = b0 := by have := List.head_eq_of_cons_eq p0; injection this
  obtain ⟨p1, q1⟩ := List.append_inj q0 (rfl)
  have e1 : a1 = b1 := by have := List.head_eq_of_cons_eq p1; injection this
  have e2 : a2 = b2 := by have := List.head_eq_of_cons_eq q1; injection this
  rw [e0, e1, e2]
instance : Enc GTallyVoter where
  n := 3
  enc := GTallyVoter.enc
  pos := by omega
  len := GTallyVoter.enc_len
  one := GTallyVoter.enc_one
  inj := GTallyVoter.enc_inj
@[go_sem] theorem GTallyVoter.n_eq : Enc.n GTallyVoter = 3 := rfl
@[irreducible] def GTallyVoter.val (x : GTallyVoter) : Value := .agg x.enc.toArray
theorem GTallyVoter.val_eq (x : GTallyVoter) : GTallyVoter.val x = .agg (Enc.enc x).toArray := by unfold GTallyVoter.val; rfl
section
variable (w : World)
end
/-! ### gavel/tally.turn -/
structure GTallyTurn where
  kind : Int
  round : Int
deriving DecidableEq
instance : Inhabited GTallyTurn := ⟨⟨0, 0⟩⟩
def GTallyTurn.enc (x : GTallyTurn) : List Value := [(.int .i64 x.kind)] ++ ([(.int .i64 x.round)])
theorem GTallyTurn.enc_len (x : GTallyTurn) : x.enc.length = 2 := by simp [GTallyTurn.enc]
theorem GTallyTurn.enc_one (x : GTallyTurn) : ∀ u ∈ x.enc, u.oneCell' = true := by
  intro u hu
  simp only [GTallyTurn.enc, List.mem_append, List.mem_singleton] at hu
  rcases hu with hu | hu
  · subst hu; rfl
  · subst hu; rfl
theorem GTallyTurn.enc_inj (x y : GTallyTurn) (h : x.enc = y.enc) : x = y := by
  obtain ⟨a0, a1⟩ := x
  obtain ⟨b0, b1⟩ := y
  simp only [GTallyTurn.enc] at h
  obtain ⟨p0, q0⟩ := List.append_inj h (rfl)
  have e0 : a0 = b0 := by have := List.head_eq_of_cons_eq p0; injection this
  have e1 : a1 = b1 := by have := List.head_eq_of_cons_eq q0; injection this
  rw [e0, e1]
instance : Enc GTallyTurn where
  n := 2
  enc := GTallyTurn.enc
  pos := by omega
  len := GTallyTurn.enc_len
  one := GTallyTurn.enc_one
  inj := GTallyTurn.enc_inj
@[go_sem] theorem GTallyTurn.n_eq : Enc.n GTallyTurn = 2 := rfl
@[irreducible] def GTallyTurn.val (x : GTallyTurn) : Value := .agg x.enc.toArray
theorem GTallyTurn.val_eq (x : GTallyTurn) : GTallyTurn.val x = .agg (Enc.enc x).toArray := by unfold GTallyTurn.val; rfl
theorem GTallyTurn.ext_all (x y : GTallyTurn) : x = y ↔ x.kind = y.kind ∧ x.round = y.round := by
  constructor
  · intro h; cases h; simp
  · intro h; cases x; cases y; simp_all
theorem uu345 : Tryz.prog.underlying 345 = some (.struct (Tryz.prog.fieldsOf 345)) := by kernel_rfl
theorem st345 : Tryz.prog.stoodInHeld 345 = false := by kernel_rfl
theorem fl345 : fieldTO Tryz.prog 345 = [(3, 0), (3, 1)] := by kernel_rfl
theorem nb345 : noBlank Tryz.prog 345 = true := by kernel_rfl
section
variable (w : World)
end
theorem lk345_0 (x : GTallyTurn) : x.enc[0]? = some (.int .i64 x.kind) := by
  simp [GTallyTurn.enc, List.getElem?_append]
theorem pt345_0 (w : World) (x : GTallyTurn) : (part 3 x.enc.toArray 0).run Tryz.prog w = .ok (.int .i64 x.kind) w := run_part_one na3 us3 (lk345_0 x)
theorem lk345_1 (x : GTallyTurn) : x.enc[1]? = some (.int .i64 x.round) := by
  simp [GTallyTurn.enc, List.getElem?_append]
theorem pt345_1 (w : World) (x : GTallyTurn) : (part 3 x.enc.toArray 1).run Tryz.prog w = .ok (.int .i64 x.round) w := run_part_one na3 us3 (lk345_1 x)
theorem zr345 : zeroT Tryz.prog 345 = some (.agg (GTallyTurn.enc default).toArray) := by kernel_rfl
theorem pl345 : ((Tryz.prog.fieldsOf 345).toList.mapM fun f => (Tryz.prog.info? f.type).map fun i => (f.offset, i.size)) = some [(0, 1), (1, 1)] := by kernel_rfl
theorem fs345_0 (x : GTallyTurn) (v : Int) (rest : List (Nat × Value)) : Instr.fill (fun i => ([(0, 1), (1, 1)] : List (Nat × Nat))[i]?) x.enc.toArray ((0, (.int .i64 v)) :: rest) = Instr.fill (fun i => ([(0, 1), (1, 1)] : List (Nat × Nat))[i]?) ({ x with kind := v } : GTallyTurn).enc.toArray rest := by
  have h := fill_seg [(0, 1), (1, 1)] 0 0 1 rfl (([] : List Value)) ([(.int .i64 x.kind)]) ([(.int .i64 x.round)] ++ (([] : List Value))) ([(.int .i64 v)]) (.int .i64 v) rest (rfl) (by simp) (by simp) (by simp)
  have e1 : x.enc = (([] : List Value)) ++ ([(.int .i64 x.kind)] ++ ([(.int .i64 x.round)] ++ (([] : List Value)))) := by simp only [GTallyTurn.enc, List.nil_append, List.append_assoc, List.append_nil]
  have e2 : ({ x with kind := v } : GTallyTurn).enc = (([] : List Value)) ++ ([(.int .i64 v)] ++ ([(.int .i64 x.round)] ++ (([] : List Value)))) := by simp only [GTallyTurn.enc, List.nil_append, List.append_assoc, List.append_nil]
  rw [e1, e2]; exact h
theorem fs345_1 (x : GTallyTurn) (v : Int) (rest : List (Nat × Value)) : Instr.fill (fun i => ([(0, 1), (1, 1)] : List (Nat × Nat))[i]?) x.enc.toArray ((1, (.int .i64 v)) :: rest) = Instr.fill (fun i => ([(0, 1), (1, 1)] : List (Nat × Nat))[i]?) ({ x with round := v } : GTallyTurn).enc.toArray rest := by
  have h := fill_seg [(0, 1), (1, 1)] 1 1 1 rfl (([] : List Value) ++ ([(.int .i64 x.kind)])) ([(.int .i64 x.round)]) (([] : List Value)) ([(.int .i64 v)]) (.int .i64 v) rest (rfl) (by simp) (by simp) (by simp)
  have e1 : x.enc = (([] : List Value) ++ ([(.int .i64 x.kind)])) ++ ([(.int .i64 x.round)] ++ (([] : List Value))) := by simp only [GTallyTurn.enc, List.nil_append, List.append_assoc, List.append_nil]
  have e2 : ({ x with round := v } : GTallyTurn).enc = (([] : List Value) ++ ([(.int .i64 x.kind)])) ++ ([(.int .i64 v)] ++ (([] : List Value))) := by simp only [GTallyTurn.enc, List.nil_append, List.append_assoc, List.append_nil]
  rw [e1, e2]; exact h
@[go_sem ↓ high] theorem xd_GTallyTurn (ρ : Operand → Value) (dst : Option Tmp) (ps : Array (Nat × Operand)) (ty : TypeId) (pos : String) (after : Array Edge) (guard : Option (Nat × Bool)) : execOp ρ { dst, op := .build 345 ps, type := ty, pos, after, guard } = (do pure (.value (← gBuild 345 (ps.map fun (i, x) => (i, ρ x))))) := ex_build ..
@[go_sem ↓ high] theorem bd345_0 (w : World) (v0 : Int) (v1 : Int) : (gBuild 345 #[(0, (.int .i64 v0)), (1, (.int .i64 v1))]).run Tryz.prog w = .ok (GTallyTurn.val ⟨v0, v1⟩) w := by
  rw [GTallyTurn.val_eq]
  refine run_gBuild_of uu345 zr345 pl345 ?_ w
  show Instr.fill _ (GTallyTurn.enc default).toArray [(0, (.int .i64 v0)), (1, (.int .i64 v1))] = _
  rw [fs345_0, fs345_1]; rfl
theorem eq_GTallyTurn (w : World) (d : Nat) (x y : GTallyTurn) : (Op.equalIn (d + 2) 345 (GTallyTurn.val x) (GTallyTurn.val y)).run Tryz.prog w = .ok (decide (x = y)) w := by
  have q0 : ∀ a b, (Op.equalIn (d + 1) 3 (.int .i64 a) (.int .i64 b)).run Tryz.prog w = .ok (decide (a = b)) w := fun a b => by rw [run_equalIn_int w (d + 0) 3 .i64 .i64 a b uk3]; congr 1
  have q1 : ∀ a b, (Op.equalIn (d + 1) 3 (.int .i64 a) (.int .i64 b)).run Tryz.prog w = .ok (decide (a = b)) w := fun a b => by rw [run_equalIn_int w (d + 0) 3 .i64 .i64 a b uk3]; congr 1
  have h := run_equalIn_fields (d + 1) x.enc.toArray y.enc.toArray w uu345 st345 nb345
  rw [fl345] at h
  unfold GTallyTurn.val
  refine h.trans ?_
  clear h
  simp only [eqFs, Sem.run_bind, pt345_0, pt345_1, q0, q1, Result.andThen_ok, Sem.run_ite, Sem.run_pure]
  have he : decide (x = y) = (decide (x.kind = y.kind) && (decide (x.round = y.round))) := by
    rw [Bool.eq_iff_iff]; simp only [Bool.and_eq_true, decide_eq_true_eq]; exact GTallyTurn.ext_all x y
  rw [he]
  generalize decide (x.kind = y.kind) = c0; generalize decide (x.round = y.round) = c1
  cases c0 <;> cases c1 <;> simp
/-! ### gavel/core.State -/
structure GCoreState where
  round : Int
  step : Int
  lockedRound : Int
  validRound : Int
  locked : GHash
  valid : GHash
  decided : Bool
  decision : GHash
deriving DecidableEq
instance : Inhabited GCoreState := ⟨⟨0, 0, 0, 0, default, default, false, default⟩⟩
def GCoreState.enc (x : GCoreState) : List Value := [(.int .i64 x.round)] ++ ([(.int .i64 x.step)] ++ ([(.int .i64 x.lockedRound)] ++ ([(.int .i64 x.validRound)] ++ (x.locked.enc ++ (x.valid.enc ++ ([(.bool x.decided)] ++ (x.decision.enc)))))))
theorem GCoreState.enc_len (x : GCoreState) : x.enc.length = 101 := by simp [GCoreState.enc, GHash.enc_len]
theorem GCoreState.enc_one (x : GCoreState) : ∀ u ∈ x.enc, u.oneCell' = true := by
  intro u hu
  simp only [GCoreState.enc, List.mem_append, List.mem_singleton] at hu
  rcases hu with hu | hu | hu | hu | hu | hu | hu | hu
  · subst hu; rfl
  · subst hu; rfl
  · subst hu; rfl
  · subst hu; rfl
  · exact Enc.one (α := GHash) _ _ hu
  · exact Enc.one (α := GHash) _ _ hu
  · subst hu; rfl
  · exact Enc.one (α := GHash) _ _ hu
theorem GCoreState.enc_inj (x y : GCoreState) (h : x.enc = y.enc) : x = y := by
  obtain ⟨a0, a1, a2, a3, a4, a5, a6, a7⟩ := x
  obtain ⟨b0, b1, b2, b3, b4, b5, b6, b7⟩ := y
  simp only [GCoreState.enc] at h
  obtain ⟨p0, q0⟩ := List.append_inj h (rfl)
  have e0 : a0 = b0 := by have := List.head_eq_of_cons_eq p0; injection this
  obtain ⟨p1, q1⟩ := List.append_inj q0 (rfl)
  have e1 : a1 = b1 := by have := List.head_eq_of_cons_eq p1; injection this
  obtain ⟨p2, q2⟩ := List.append_inj q1 (rfl)
  have e2 : a2 = b2 := by have := List.head_eq_of_cons_eq p2; injection this
  obtain ⟨p3, q3⟩ := List.append_inj q2 (rfl)
  have e3 : a3 = b3 := by have := List.head_eq_of_cons_eq p3; injection this
  obtain ⟨p4, q4⟩ := List.append_inj q3 (by simp [GHash.enc_len])
  have e4 := Enc.inj (α := GHash) _ _ p4
  obtain ⟨p5, q5⟩ := List.append_inj q4 (by simp [GHash.enc_len])
  have e5 := Enc.inj (α := GHash) _ _ p5
  obtain ⟨p6, q6⟩ := List.append_inj q5 (rfl)
  have e6 : a6 = b6 := by have := List.head_eq_of_cons_eq p6; injection this
  have e7 := Enc.inj (α := GHash) _ _ q6
  rw [e0, e1, e2, e3, e4, e5, e6, e7]
instance : Enc GCoreState where
  n := 101
  enc := GCoreState.enc
  pos := by omega
  len := GCoreState.enc_len
  one := GCoreState.enc_one
  inj := GCoreState.enc_inj
@[go_sem] theorem GCoreState.n_eq : Enc.n GCoreState = 101 := rfl
@[irreducible] def GCoreState.val (x : GCoreState) : Value := .agg x.enc.toArray
theorem GCoreState.val_eq (x : GCoreState) : GCoreState.val x = .agg (Enc.enc x).toArray := by unfold GCoreState.val; rfl
theorem uu197 : Tryz.prog.underlying 197 = some (.struct (Tryz.prog.fieldsOf 197)) := by kernel_rfl
section
variable (w : World)
end
theorem lk197_0 (x : GCoreState) : x.enc[0]? = some (.int .i64 x.round) := by
  simp [GCoreState.enc, List.getElem?_append]
theorem lk197_1 (x : GCoreState) : x.enc[1]? = some (.int .i64 x.step) := by
  simp [GCoreState.enc, List.getElem?_append]
theorem lk197_3 (x : GCoreState) : x.enc[3]? = some (.int .i64 x.validRound) := by
  simp [GCoreState.enc, List.getElem?_append]
theorem ds197_5 (x : GCoreState) : (x.enc.drop 36).take 32 = x.valid.enc := by
  unfold GCoreState.enc
  simp [List.drop_append, List.drop_eq_nil_of_le, GHash.enc_len] <;> (rw [List.take_append_of_le_length (by simp [GHash.enc_len])]; exact List.take_of_length_le (by simp [GHash.enc_len]))
theorem lk197_6 (x : GCoreState) : x.enc[68]? = some (.bool x.decided) := by
  simp [GCoreState.enc, List.getElem?_append, GHash.enc_len]
theorem zr197 : zeroT Tryz.prog 197 = some (.agg (GCoreState.enc default).toArray) := by kernel_rfl
theorem GCoreState.at_round {w : World} {a : Addr} {x : GCoreState} (h : get? GCoreState w a = some x) : w.cell? (a.add 0) = some (.int .i64 x.round) := (get?_iff.1 h) _ _ (lk197_0 x)
theorem GCoreState.at_step {w : World} {a : Addr} {x : GCoreState} (h : get? GCoreState w a = some x) : w.cell? (a.add 1) = some (.int .i64 x.step) := (get?_iff.1 h) _ _ (lk197_1 x)
theorem GCoreState.at_validRound {w : World} {a : Addr} {x : GCoreState} (h : get? GCoreState w a = some x) : w.cell? (a.add 3) = some (.int .i64 x.validRound) := (get?_iff.1 h) _ _ (lk197_3 x)
theorem GCoreState.at_valid {w : World} {a : Addr} {x : GCoreState} (h : get? GCoreState w a = some x) : get? GHash w (a.add 36) = some x.valid := by
  rw [get?_iff] at h ⊢
  refine h.sub 36 fun j v hv => ?_
  have hd := ds197_5 x
  have hj : j < 32 := by have := (List.getElem?_eq_some_iff.1 hv).1; rwa [Enc.len] at this
  show x.enc[36 + j]? = some v
  rw [← List.getElem?_drop, ← List.getElem?_take_of_lt hj, hd]; exact hv
theorem GCoreState.at_decided {w : World} {a : Addr} {x : GCoreState} (h : get? GCoreState w a = some x) : w.cell? (a.add 68) = some (.bool x.decided) := (get?_iff.1 h) _ _ (lk197_6 x)
theorem pl197 : ((Tryz.prog.fieldsOf 197).toList.mapM fun f => (Tryz.prog.info? f.type).map fun i => (f.offset, i.size)) = some [(0, 1), (1, 1), (2, 1), (3, 1), (4, 32), (36, 32), (68, 1), (69, 32)] := by kernel_rfl
theorem fs197_2 (x : GCoreState) (v : Int) (rest : List (Nat × Value)) : Instr.fill (fun i => ([(0, 1), (1, 1), (2, 1), (3, 1), (4, 32), (36, 32), (68, 1), (69, 32)] : List (Nat × Nat))[i]?) x.enc.toArray ((2, (.int .i64 v)) :: rest) = Instr.fill (fun i => ([(0, 1), (1, 1), (2, 1), (3, 1), (4, 32), (36, 32), (68, 1), (69, 32)] : List (Nat × Nat))[i]?) ({ x with lockedRound := v } : GCoreState).enc.toArray rest := by
  have h := fill_seg [(0, 1), (1, 1), (2, 1), (3, 1), (4, 32), (36, 32), (68, 1), (69, 32)] 2 2 1 rfl (([] : List Value) ++ ([(.int .i64 x.round)] ++ ([(.int .i64 x.step)]))) ([(.int .i64 x.lockedRound)]) ([(.int .i64 x.validRound)] ++ (x.locked.enc ++ (x.valid.enc ++ ([(.bool x.decided)] ++ (x.decision.enc ++ (([] : List Value))))))) ([(.int .i64 v)]) (.int .i64 v) rest (rfl) (by simp [GHash.enc_len]) (by simp [GHash.enc_len]) (by simp [GHash.enc_len])
  have e1 : x.enc = (([] : List Value) ++ ([(.int .i64 x.round)] ++ ([(.int .i64 x.step)]))) ++ ([(.int .i64 x.lockedRound)] ++ ([(.int .i64 x.validRound)] ++ (x.locked.enc ++ (x.valid.enc ++ ([(.bool x.decided)] ++ (x.decision.enc ++ (([] : List Value)))))))) := by simp only [GCoreState.enc, List.nil_append, List.append_assoc, List.append_nil]
  have e2 : ({ x with lockedRound := v } : GCoreState).enc = (([] : List Value) ++ ([(.int .i64 x.round)] ++ ([(.int .i64 x.step)]))) ++ ([(.int .i64 v)] ++ ([(.int .i64 x.validRound)] ++ (x.locked.enc ++ (x.valid.enc ++ ([(.bool x.decided)] ++ (x.decision.enc ++ (([] : List Value)))))))) := by simp only [GCoreState.enc, List.nil_append, List.append_assoc, List.append_nil]
  rw [e1, e2]; exact h
theorem fs197_3 (x : GCoreState) (v : Int) (rest : List (Nat × Value)) : Instr.fill (fun i => ([(0, 1), (1, 1), (2, 1), (3, 1), (4, 32), (36, 32), (68, 1), (69, 32)] : List (Nat × Nat))[i]?) x.enc.toArray ((3, (.int .i64 v)) :: rest) = Instr.fill (fun i => ([(0, 1), (1, 1), (2, 1), (3, 1), (4, 32), (36, 32), (68, 1), (69, 32)] : List (Nat × Nat))[i]?) ({ x with validRound := v } : GCoreState).enc.toArray rest := by
  have h := fill_seg [(0, 1), (1, 1), (2, 1), (3, 1), (4, 32), (36, 32), (68, 1), (69, 32)] 3 3 1 rfl (([] : List Value) ++ ([(.int .i64 x.round)] ++ ([(.int .i64 x.step)] ++ ([(.int .i64 x.lockedRound)])))) ([(.int .i64 x.validRound)]) (x.locked.enc ++ (x.valid.enc ++ ([(.bool x.decided)] ++ (x.decision.enc ++ (([] : List Value)))))) ([(.int .i64 v)]) (.int .i64 v) rest (rfl) (by simp [GHash.enc_len]) (by simp [GHash.enc_len]) (by simp [GHash.enc_len])
  have e1 : x.enc = (([] : List Value) ++ ([(.int .i64 x.round)] ++ ([(.int .i64 x.step)] ++ ([(.int .i64 x.lockedRound)])))) ++ ([(.int .i64 x.validRound)] ++ (x.locked.enc ++ (x.valid.enc ++ ([(.bool x.decided)] ++ (x.decision.enc ++ (([] : List Value))))))) := by simp only [GCoreState.enc, List.nil_append, List.append_assoc, List.append_nil]
  have e2 : ({ x with validRound := v } : GCoreState).enc = (([] : List Value) ++ ([(.int .i64 x.round)] ++ ([(.int .i64 x.step)] ++ ([(.int .i64 x.lockedRound)])))) ++ ([(.int .i64 v)] ++ (x.locked.enc ++ (x.valid.enc ++ ([(.bool x.decided)] ++ (x.decision.enc ++ (([] : List Value))))))) := by simp only [GCoreState.enc, List.nil_append, List.append_assoc, List.append_nil]
  rw [e1, e2]; exact h
@[go_sem ↓ high] theorem xd_GCoreState (ρ : Operand → Value) (dst : Option Tmp) (ps : Array (Nat × Operand)) (ty : TypeId) (pos : String) (after : Array Edge) (guard : Option (Nat × Bool)) : execOp ρ { dst, op := .build 197 ps, type := ty, pos, after, guard } = (do pure (.value (← gBuild 197 (ps.map fun (i, x) => (i, ρ x))))) := ex_build ..
@[go_sem ↓ high] theorem bd197_0 (w : World) (v2 : Int) (v3 : Int) : (gBuild 197 #[(2, (.int .i64 v2)), (3, (.int .i64 v3))]).run Tryz.prog w = .ok (GCoreState.val ⟨0, 0, v2, v3, default, default, false, default⟩) w := by
  rw [GCoreState.val_eq]
  refine run_gBuild_of uu197 zr197 pl197 ?_ w
  show Instr.fill _ (GCoreState.enc default).toArray [(2, (.int .i64 v2)), (3, (.int .i64 v3))] = _
  rw [fs197_2, fs197_3]; rfl
/-! ### gavel/core.Core -/
structure GCoreCore where
  c : GConf
  epoch : Int
  replica : Int
  s : GCoreState
  t : Option Addr
  proposals : Option Nat
  wasValid : Bool
  setPrevote : Bool
  setPrecommit : Bool
deriving DecidableEq
instance : Inhabited GCoreCore := ⟨⟨default, 0, 0, default, none, none, false, false, false⟩⟩
def GCoreCore.enc (x : GCoreCore) : List Value := x.c.enc ++ ([(.int .i64 x.epoch)] ++ ([(.int .i64 x.replica)] ++ (x.s.enc ++ ([(.pointer x.t)] ++ ([(.map x.proposals)] ++ ([(.bool x.wasValid)] ++ ([(.bool x.setPrevote)] ++ ([(.bool x.setPrecommit)]))))))))
theorem GCoreCore.enc_len (x : GCoreCore) : x.enc.length = 110 := by simp [GCoreCore.enc, GConf.enc_len, GCoreState.enc_len]
theorem GCoreCore.enc_one (x : GCoreCore) : ∀ u ∈ x.enc, u.oneCell' = true := by
  intro u hu
  simp only [GCoreCore.enc, List.mem_append, List.mem_singleton] at hu
  rcases hu with hu | hu | hu | hu | hu | hu | hu | hu | hu
  · exact Enc.one (α := GConf) _ _ hu
  · subst hu; rfl
  · subst hu; rfl
  · exact Enc.one (α := GCoreState) _ _ hu
  · subst hu; rfl
  · subst hu; rfl
  · subst hu; rfl
  · subst hu; rfl
  · subst hu; rfl
theorem GCoreCore.enc_inj (x y : GCoreCore) (h : x.enc = y.enc) : x = y := by
  obtain ⟨a0, a1, a2, a3, a4, a5, a6, a7, a8⟩ := x
  obtain ⟨b0, b1, b2, b3, b4, b5, b6, b7, b8⟩ := y
  simp only [GCoreCore.enc] at h
  obtain ⟨p0, q0⟩ := List.append_inj h (by simp [GConf.enc_len])
  have e0 := Enc.inj (α := GConf) _ _ p0
  obtain ⟨p1, q1⟩ := List.append_inj q0 (rfl)
  have e1 : a1 = b1 := by have := List.head_eq_of_cons_eq p1; injection this
  obtain ⟨p2, q2⟩ := List.append_inj q1 (rfl)
  have e2 : a2 = b2 := by have := List.head_eq_of_cons_eq p2; injection this
  obtain ⟨p3, q3⟩ := List.append_inj q2 (by simp [GCoreState.enc_len])
  have e3 := Enc.inj (α := GCoreState) _ _ p3
  obtain ⟨p4, q4⟩ := List.append_inj q3 (rfl)
  have e4 : a4 = b4 := by have := List.head_eq_of_cons_eq p4; injection this
  obtain ⟨p5, q5⟩ := List.append_inj q4 (rfl)
  have e5 : a5 = b5 := by have := List.head_eq_of_cons_eq p5; injection this
  obtain ⟨p6, q6⟩ := List.append_inj q5 (rfl)
  have e6 : a6 = b6 := by have := List.head_eq_of_cons_eq p6; injection this
  obtain ⟨p7, q7⟩ := List.append_inj q6 (rfl)
  have e7 : a7 = b7 := by have := List.head_eq_of_cons_eq p7; injection this
  have e8 : a8 = b8 := by have := List.head_eq_of_cons_eq q7; injection this
  rw [e0, e1, e2, e3, e4, e5, e6, e7, e8]
instance : Enc GCoreCore where
  n := 110
  enc := GCoreCore.enc
  pos := by omega
  len := GCoreCore.enc_len
  one := GCoreCore.enc_one
  inj := GCoreCore.enc_inj
@[go_sem] theorem GCoreCore.n_eq : Enc.n GCoreCore = 110 := rfl
@[irreducible] def GCoreCore.val (x : GCoreCore) : Value := .agg x.enc.toArray
theorem GCoreCore.val_eq (x : GCoreCore) : GCoreCore.val x = .agg (Enc.enc x).toArray := by unfold GCoreCore.val; rfl
theorem uu201 : Tryz.prog.underlying 201 = some (.struct (Tryz.prog.fieldsOf 201)) := by kernel_rfl
@[go_sem ↓ high] theorem xb_GCoreCore (ρ : Operand → Value) (dst : Option Tmp) (x : Operand) (ty : TypeId) (pos : String) (after : Array Edge) (guard : Option (Nat × Bool)) : execOp ρ { dst, op := .box 201 x, type := ty, pos, after, guard } = (do pure (.value (← gBox 201 (ρ x)))) := ex_box ..
section
variable (w : World)
@[go_sem ↓ high] theorem bx_GCoreCore (x : GCoreCore) : (gBox 201 (GCoreCore.val x)).run Tryz.prog w = .ok (.pointer (some ⟨w.heap.size, 0, none⟩)) (w.alloc (.cells (GCoreCore.enc x).toArray 201)) := by
  rw [GCoreCore.val_eq]; exact run_gBox _ w
end
theorem ds201_0 (x : GCoreCore) : (x.enc.drop 0).take 2 = x.c.enc := by
  unfold GCoreCore.enc
  simp only [List.drop_zero] <;> (rw [List.take_append_of_le_length (by simp [GConf.enc_len])]; exact List.take_of_length_le (by simp [GConf.enc_len]))
theorem lk201_1 (x : GCoreCore) : x.enc[2]? = some (.int .i64 x.epoch) := by
  simp [GCoreCore.enc, List.getElem?_append, GConf.enc_len]
theorem lk201_2 (x : GCoreCore) : x.enc[3]? = some (.int .i64 x.replica) := by
  simp [GCoreCore.enc, List.getElem?_append, GConf.enc_len]
theorem ds201_3 (x : GCoreCore) : (x.enc.drop 4).take 101 = x.s.enc := by
  unfold GCoreCore.enc
  simp [List.drop_append, List.drop_eq_nil_of_le, GConf.enc_len] <;> (rw [List.take_append_of_le_length (by simp [GCoreState.enc_len])]; exact List.take_of_length_le (by simp [GCoreState.enc_len]))
theorem lk201_4 (x : GCoreCore) : x.enc[105]? = some (.pointer x.t) := by
  simp [GCoreCore.enc, List.getElem?_append, GConf.enc_len, GCoreState.enc_len]
theorem lk201_5 (x : GCoreCore) : x.enc[106]? = some (.map x.proposals) := by
  simp [GCoreCore.enc, List.getElem?_append, GConf.enc_len, GCoreState.enc_len]
theorem lk201_6 (x : GCoreCore) : x.enc[107]? = some (.bool x.wasValid) := by
  simp [GCoreCore.enc, List.getElem?_append, GConf.enc_len, GCoreState.enc_len]
theorem lk201_7 (x : GCoreCore) : x.enc[108]? = some (.bool x.setPrevote) := by
  simp [GCoreCore.enc, List.getElem?_append, GConf.enc_len, GCoreState.enc_len]
theorem lk201_8 (x : GCoreCore) : x.enc[109]? = some (.bool x.setPrecommit) := by
  simp [GCoreCore.enc, List.getElem?_append, GConf.enc_len, GCoreState.enc_len]
theorem zr201 : zeroT Tryz.prog 201 = some (.agg (GCoreCore.enc default).toArray) := by kernel_rfl
theorem GCoreCore.at_c {w : World} {a : Addr} {x : GCoreCore} (h : get? GCoreCore w a = some x) : get? GConf w (a.add 0) = some x.c := by
  rw [get?_iff] at h ⊢
  refine h.sub 0 fun j v hv => ?_
  have hd := ds201_0 x
  have hj : j < 2 := by have := (List.getElem?_eq_some_iff.1 hv).1; rwa [Enc.len] at this
  show x.enc[0 + j]? = some v
  rw [← List.getElem?_drop, ← List.getElem?_take_of_lt hj, hd]; exact hv
theorem GCoreCore.at_epoch {w : World} {a : Addr} {x : GCoreCore} (h : get? GCoreCore w a = some x) : w.cell? (a.add 2) = some (.int .i64 x.epoch) := (get?_iff.1 h) _ _ (lk201_1 x)
theorem GCoreCore.at_replica {w : World} {a : Addr} {x : GCoreCore} (h : get? GCoreCore w a = some x) : w.cell? (a.add 3) = some (.int .i64 x.replica) := (get?_iff.1 h) _ _ (lk201_2 x)
theorem GCoreCore.at_s {w : World} {a : Addr} {x : GCoreCore} (h : get? GCoreCore w a = some x) : get? GCoreState w (a.add 4) = some x.s := by
  rw [get?_iff] at h ⊢
  refine h.sub 4 fun j v hv => ?_
  have hd := ds201_3 x
  have hj : j < 101 := by have := (List.getElem?_eq_some_iff.1 hv).1; rwa [Enc.len] at this
  show x.enc[4 + j]? = some v
  rw [← List.getElem?_drop, ← List.getElem?_take_of_lt hj, hd]; exact hv
theorem GCoreCore.at_t {w : World} {a : Addr} {x : GCoreCore} (h : get? GCoreCore w a = some x) : w.cell? (a.add 105) = some (.pointer x.t) := (get?_iff.1 h) _ _ (lk201_4 x)
theorem GCoreCore.at_proposals {w : World} {a : Addr} {x : GCoreCore} (h : get? GCoreCore w a = some x) : w.cell? (a.add 106) = some (.map x.proposals) := (get?_iff.1 h) _ _ (lk201_5 x)
theorem GCoreCore.at_wasValid {w : World} {a : Addr} {x : GCoreCore} (h : get? GCoreCore w a = some x) : w.cell? (a.add 107) = some (.bool x.wasValid) := (get?_iff.1 h) _ _ (lk201_6 x)
theorem GCoreCore.at_setPrevote {w : World} {a : Addr} {x : GCoreCore} (h : get? GCoreCore w a = some x) : w.cell? (a.add 108) = some (.bool x.setPrevote) := (get?_iff.1 h) _ _ (lk201_7 x)
theorem GCoreCore.at_setPrecommit {w : World} {a : Addr} {x : GCoreCore} (h : get? GCoreCore w a = some x) : w.cell? (a.add 109) = some (.bool x.setPrecommit) := (get?_iff.1 h) _ _ (lk201_8 x)
@[go_sem] theorem nw201 (w : World) (n : Nat) (x : GCoreCore) (hn : n = w.heap.size) : get? GCoreCore (w.alloc (.cells (GCoreCore.enc x).toArray 201)) ⟨n, 0, none⟩ = some x := by
  subst hn; exact get?_new 201 x
theorem pl201 : ((Tryz.prog.fieldsOf 201).toList.mapM fun f => (Tryz.prog.info? f.type).map fun i => (f.offset, i.size)) = some [(0, 2), (2, 1), (3, 1), (4, 101), (105, 1), (106, 1), (107, 1), (108, 1), (109, 1)] := by kernel_rfl
theorem fs201_0 (x : GCoreCore) (v : GConf) (rest : List (Nat × Value)) : Instr.fill (fun i => ([(0, 2), (2, 1), (3, 1), (4, 101), (105, 1), (106, 1), (107, 1), (108, 1), (109, 1)] : List (Nat × Nat))[i]?) x.enc.toArray ((0, (v.val)) :: rest) = Instr.fill (fun i => ([(0, 2), (2, 1), (3, 1), (4, 101), (105, 1), (106, 1), (107, 1), (108, 1), (109, 1)] : List (Nat × Nat))[i]?) ({ x with c := v } : GCoreCore).enc.toArray rest := by
  have h := fill_seg [(0, 2), (2, 1), (3, 1), (4, 101), (105, 1), (106, 1), (107, 1), (108, 1), (109, 1)] 0 0 2 rfl (([] : List Value)) (x.c.enc) ([(.int .i64 x.epoch)] ++ ([(.int .i64 x.replica)] ++ (x.s.enc ++ ([(.pointer x.t)] ++ ([(.map x.proposals)] ++ ([(.bool x.wasValid)] ++ ([(.bool x.setPrevote)] ++ ([(.bool x.setPrecommit)] ++ (([] : List Value)))))))))) (v.enc) (v.val) rest (by rw [GConf.val_eq]; rfl) (by simp [GConf.enc_len, GCoreState.enc_len]) (by simp [GConf.enc_len, GCoreState.enc_len]) (by simp [GConf.enc_len, GCoreState.enc_len])
  have e1 : x.enc = (([] : List Value)) ++ (x.c.enc ++ ([(.int .i64 x.epoch)] ++ ([(.int .i64 x.replica)] ++ (x.s.enc ++ ([(.pointer x.t)] ++ ([(.map x.proposals)] ++ ([(.bool x.wasValid)] ++ ([(.bool x.setPrevote)] ++ ([(.bool x.setPrecommit)] ++ (([] : List Value))))))))))) := by simp only [GCoreCore.enc, List.nil_append, List.append_assoc, List.append_nil]
  have e2 : ({ x with c := v } : GCoreCore).enc = (([] : List Value)) ++ (v.enc ++ ([(.int .i64 x.epoch)] ++ ([(.int .i64 x.replica)] ++ (x.s.enc ++ ([(.pointer x.t)] ++ ([(.map x.proposals)] ++ ([(.bool x.wasValid)] ++ ([(.bool x.setPrevote)] ++ ([(.bool x.setPrecommit)] ++ (([] : List Value))))))))))) := by simp only [GCoreCore.enc, List.nil_append, List.append_assoc, List.append_nil]
  rw [e1, e2]; exact h
theorem fs201_1 (x : GCoreCore) (v : Int) (rest : List (Nat × Value)) : Instr.fill (fun i => ([(0, 2), (2, 1), (3, 1), (4, 101), (105, 1), (106, 1), (107, 1), (108, 1), (109, 1)] : List (Nat × Nat))[i]?) x.enc.toArray ((1, (.int .i64 v)) :: rest) = Instr.fill (fun i => ([(0, 2), (2, 1), (3, 1), (4, 101), (105, 1), (106, 1), (107, 1), (108, 1), (109, 1)] : List (Nat × Nat))[i]?) ({ x with epoch := v } : GCoreCore).enc.toArray rest := by
  have h := fill_seg [(0, 2), (2, 1), (3, 1), (4, 101), (105, 1), (106, 1), (107, 1), (108, 1), (109, 1)] 1 2 1 rfl (([] : List Value) ++ (x.c.enc)) ([(.int .i64 x.epoch)]) ([(.int .i64 x.replica)] ++ (x.s.enc ++ ([(.pointer x.t)] ++ ([(.map x.proposals)] ++ ([(.bool x.wasValid)] ++ ([(.bool x.setPrevote)] ++ ([(.bool x.setPrecommit)] ++ (([] : List Value))))))))) ([(.int .i64 v)]) (.int .i64 v) rest (rfl) (by simp [GConf.enc_len, GCoreState.enc_len]) (by simp [GConf.enc_len, GCoreState.enc_len]) (by simp [GConf.enc_len, GCoreState.enc_len])
  have e1 : x.enc = (([] : List Value) ++ (x.c.enc)) ++ ([(.int .i64 x.epoch)] ++ ([(.int .i64 x.replica)] ++ (x.s.enc ++ ([(.pointer x.t)] ++ ([(.map x.proposals)] ++ ([(.bool x.wasValid)] ++ ([(.bool x.setPrevote)] ++ ([(.bool x.setPrecommit)] ++ (([] : List Value)))))))))) := by simp only [GCoreCore.enc, List.nil_append, List.append_assoc, List.append_nil]
  have e2 : ({ x with epoch := v } : GCoreCore).enc = (([] : List Value) ++ (x.c.enc)) ++ ([(.int .i64 v)] ++ ([(.int .i64 x.replica)] ++ (x.s.enc ++ ([(.pointer x.t)] ++ ([(.map x.proposals)] ++ ([(.bool x.wasValid)] ++ ([(.bool x.setPrevote)] ++ ([(.bool x.setPrecommit)] ++ (([] : List Value)))))))))) := by simp only [GCoreCore.enc, List.nil_append, List.append_assoc, List.append_nil]
  rw [e1, e2]; exact h
theorem fs201_2 (x : GCoreCore) (v : Int) (rest : List (Nat × Value)) : Instr.fill (fun i => ([(0, 2), (2, 1), (3, 1), (4, 101), (105, 1), (106, 1), (107, 1), (108, 1), (109, 1)] : List (Nat × Nat))[i]?) x.enc.toArray ((2, (.int .i64 v)) :: rest) = Instr.fill (fun i => ([(0, 2), (2, 1), (3, 1), (4, 101), (105, 1), (106, 1), (107, 1), (108, 1), (109, 1)] : List (Nat × Nat))[i]?) ({ x with replica := v } : GCoreCore).enc.toArray rest := by
  have h := fill_seg [(0, 2), (2, 1), (3, 1), (4, 101), (105, 1), (106, 1), (107, 1), (108, 1), (109, 1)] 2 3 1 rfl (([] : List Value) ++ (x.c.enc ++ ([(.int .i64 x.epoch)]))) ([(.int .i64 x.replica)]) (x.s.enc ++ ([(.pointer x.t)] ++ ([(.map x.proposals)] ++ ([(.bool x.wasValid)] ++ ([(.bool x.setPrevote)] ++ ([(.bool x.setPrecommit)] ++ (([] : List Value)))))))) ([(.int .i64 v)]) (.int .i64 v) rest (rfl) (by simp [GConf.enc_len, GCoreState.enc_len]) (by simp [GConf.enc_len, GCoreState.enc_len]) (by simp [GConf.enc_len, GCoreState.enc_len])
  have e1 : x.enc = (([] : List Value) ++ (x.c.enc ++ ([(.int .i64 x.epoch)]))) ++ ([(.int .i64 x.replica)] ++ (x.s.enc ++ ([(.pointer x.t)] ++ ([(.map x.proposals)] ++ ([(.bool x.wasValid)] ++ ([(.bool x.setPrevote)] ++ ([(.bool x.setPrecommit)] ++ (([] : List Value))))))))) := by simp only [GCoreCore.enc, List.nil_append, List.append_assoc, List.append_nil]
  have e2 : ({ x with replica := v } : GCoreCore).enc = (([] : List Value) ++ (x.c.enc ++ ([(.int .i64 x.epoch)]))) ++ ([(.int .i64 v)] ++ (x.s.enc ++ ([(.pointer x.t)] ++ ([(.map x.proposals)] ++ ([(.bool x.wasValid)] ++ ([(.bool x.setPrevote)] ++ ([(.bool x.setPrecommit)] ++ (([] : List Value))))))))) := by simp only [GCoreCore.enc, List.nil_append, List.append_assoc, List.append_nil]
  rw [e1, e2]; exact h
theorem fs201_3 (x : GCoreCore) (v : GCoreState) (rest : List (Nat × Value)) : Instr.fill (fun i => ([(0, 2), (2, 1), (3, 1), (4, 101), (105, 1), (106, 1), (107, 1), (108, 1), (109, 1)] : List (Nat × Nat))[i]?) x.enc.toArray ((3, (v.val)) :: rest) = Instr.fill (fun i => ([(0, 2), (2, 1), (3, 1), (4, 101), (105, 1), (106, 1), (107, 1), (108, 1), (109, 1)] : List (Nat × Nat))[i]?) ({ x with s := v } : GCoreCore).enc.toArray rest := by
  have h := fill_seg [(0, 2), (2, 1), (3, 1), (4, 101), (105, 1), (106, 1), (107, 1), (108, 1), (109, 1)] 3 4 101 rfl (([] : List Value) ++ (x.c.enc ++ ([(.int .i64 x.epoch)] ++ ([(.int .i64 x.replica)])))) (x.s.enc) ([(.pointer x.t)] ++ ([(.map x.proposals)] ++ ([(.bool x.wasValid)] ++ ([(.bool x.setPrevote)] ++ ([(.bool x.setPrecommit)] ++ (([] : List Value))))))) (v.enc) (v.val) rest (by rw [GCoreState.val_eq]; rfl) (by simp [GConf.enc_len, GCoreState.enc_len]) (by simp [GConf.enc_len, GCoreState.enc_len]) (by simp [GConf.enc_len, GCoreState.enc_len])
  have e1 : x.enc = (([] : List Value) ++ (x.c.enc ++ ([(.int .i64 x.epoch)] ++ ([(.int .i64 x.replica)])))) ++ (x.s.enc ++ ([(.pointer x.t)] ++ ([(.map x.proposals)] ++ ([(.bool x.wasValid)] ++ ([(.bool x.setPrevote)] ++ ([(.bool x.setPrecommit)] ++ (([] : List Value)))))))) := by simp only [GCoreCore.enc, List.nil_append, List.append_assoc, List.append_nil]
  have e2 : ({ x with s := v } : GCoreCore).enc = (([] : List Value) ++ (x.c.enc ++ ([(.int .i64 x.epoch)] ++ ([(.int .i64 x.replica)])))) ++ (v.enc ++ ([(.pointer x.t)] ++ ([(.map x.proposals)] ++ ([(.bool x.wasValid)] ++ ([(.bool x.setPrevote)] ++ ([(.bool x.setPrecommit)] ++ (([] : List Value)))))))) := by simp only [GCoreCore.enc, List.nil_append, List.append_assoc, List.append_nil]
  rw [e1, e2]; exact h
theorem fs201_4 (x : GCoreCore) (v : Option Addr) (rest : List (Nat × Value)) : Instr.fill (fun i => ([(0, 2), (2, 1), (3, 1), (4, 101), (105, 1), (106, 1), (107, 1), (108, 1), (109, 1)] : List (Nat × Nat))[i]?) x.enc.toArray ((4, (.pointer v)) :: rest) = Instr.fill (fun i => ([(0, 2), (2, 1), (3, 1), (4, 101), (105, 1), (106, 1), (107, 1), (108, 1), (109, 1)] : List (Nat × Nat))[i]?) ({ x with t := v } : GCoreCore).enc.toArray rest := by
  have h := fill_seg [(0, 2), (2, 1), (3, 1), (4, 101), (105, 1), (106, 1), (107, 1), (108, 1), (109, 1)] 4 105 1 rfl (([] : List Value) ++ (x.c.enc ++ ([(.int .i64 x.epoch)] ++ ([(.int .i64 x.replica)] ++ (x.s.enc))))) ([(.pointer x.t)]) ([(.map x.proposals)] ++ ([(.bool x.wasValid)] ++ ([(.bool x.setPrevote)] ++ ([(.bool x.setPrecommit)] ++ (([] : List Value)))))) ([(.pointer v)]) (.pointer v) rest (rfl) (by simp [GConf.enc_len, GCoreState.enc_len]) (by simp [GConf.enc_len, GCoreState.enc_len]) (by simp [GConf.enc_len, GCoreState.enc_len])
  have e1 : x.enc = (([] : List Value) ++ (x.c.enc ++ ([(.int .i64 x.epoch)] ++ ([(.int .i64 x.replica)] ++ (x.s.enc))))) ++ ([(.pointer x.t)] ++ ([(.map x.proposals)] ++ ([(.bool x.wasValid)] ++ ([(.bool x.setPrevote)] ++ ([(.bool x.setPrecommit)] ++ (([] : List Value))))))) := by simp only [GCoreCore.enc, List.nil_append, List.append_assoc, List.append_nil]
  have e2 : ({ x with t := v } : GCoreCore).enc = (([] : List Value) ++ (x.c.enc ++ ([(.int .i64 x.epoch)] ++ ([(.int .i64 x.replica)] ++ (x.s.enc))))) ++ ([(.pointer v)] ++ ([(.map x.proposals)] ++ ([(.bool x.wasValid)] ++ ([(.bool x.setPrevote)] ++ ([(.bool x.setPrecommit)] ++ (([] : List Value))))))) := by simp only [GCoreCore.enc, List.nil_append, List.append_assoc, List.append_nil]
  rw [e1, e2]; exact h
theorem fs201_5 (x : GCoreCore) (v : Option Nat) (rest : List (Nat × Value)) : Instr.fill (fun i => ([(0, 2), (2, 1), (3, 1), (4, 101), (105, 1), (106, 1), (107, 1), (108, 1), (109, 1)] : List (Nat × Nat))[i]?) x.enc.toArray ((5, (.map v)) :: rest) = Instr.fill (fun i => ([(0, 2), (2, 1), (3, 1), (4, 101), (105, 1), (106, 1), (107, 1), (108, 1), (109, 1)] : List (Nat × Nat))[i]?) ({ x with proposals := v } : GCoreCore).enc.toArray rest := by
  have h := fill_seg [(0, 2), (2, 1), (3, 1), (4, 101), (105, 1), (106, 1), (107, 1), (108, 1), (109, 1)] 5 106 1 rfl (([] : List Value) ++ (x.c.enc ++ ([(.int .i64 x.epoch)] ++ ([(.int .i64 x.replica)] ++ (x.s.enc ++ ([(.pointer x.t)])))))) ([(.map x.proposals)]) ([(.bool x.wasValid)] ++ ([(.bool x.setPrevote)] ++ ([(.bool x.setPrecommit)] ++ (([] : List Value))))) ([(.map v)]) (.map v) rest (rfl) (by simp [GConf.enc_len, GCoreState.enc_len]) (by simp [GConf.enc_len, GCoreState.enc_len]) (by simp [GConf.enc_len, GCoreState.enc_len])
  have e1 : x.enc = (([] : List Value) ++ (x.c.enc ++ ([(.int .i64 x.epoch)] ++ ([(.int .i64 x.replica)] ++ (x.s.enc ++ ([(.pointer x.t)])))))) ++ ([(.map x.proposals)] ++ ([(.bool x.wasValid)] ++ ([(.bool x.setPrevote)] ++ ([(.bool x.setPrecommit)] ++ (([] : List Value)))))) := by simp only [GCoreCore.enc, List.nil_append, List.append_assoc, List.append_nil]
  have e2 : ({ x with proposals := v } : GCoreCore).enc = (([] : List Value) ++ (x.c.enc ++ ([(.int .i64 x.epoch)] ++ ([(.int .i64 x.replica)] ++ (x.s.enc ++ ([(.pointer x.t)])))))) ++ ([(.map v)] ++ ([(.bool x.wasValid)] ++ ([(.bool x.setPrevote)] ++ ([(.bool x.setPrecommit)] ++ (([] : List Value)))))) := by simp only [GCoreCore.enc, List.nil_append, List.append_assoc, List.append_nil]
  rw [e1, e2]; exact h
@[go_sem ↓ high] theorem xd_GCoreCore (ρ : Operand → Value) (dst : Option Tmp) (ps : Array (Nat × Operand)) (ty : TypeId) (pos : String) (after : Array Edge) (guard : Option (Nat × Bool)) : execOp ρ { dst, op := .build 201 ps, type := ty, pos, after, guard } = (do pure (.value (← gBuild 201 (ps.map fun (i, x) => (i, ρ x))))) := ex_build ..
@[go_sem ↓ high] theorem bd201_0 (w : World) (v0 : GConf) (v1 : Int) (v2 : Int) (v3 : GCoreState) (v4 : Option Addr) (v5 : Option Nat) : (gBuild 201 #[(0, (v0.val)), (1, (.int .i64 v1)), (2, (.int .i64 v2)), (3, (v3.val)), (4, (.pointer v4)), (5, (.map v5))]).run Tryz.prog w = .ok (GCoreCore.val ⟨v0, v1, v2, v3, v4, v5, false, false, false⟩) w := by
  rw [GCoreCore.val_eq]
  refine run_gBuild_of uu201 zr201 pl201 ?_ w
  show Instr.fill _ (GCoreCore.enc default).toArray [(0, (v0.val)), (1, (.int .i64 v1)), (2, (.int .i64 v2)), (3, (v3.val)), (4, (.pointer v4)), (5, (.map v5))] = _
  rw [fs201_0, fs201_1, fs201_2, fs201_3, fs201_4, fs201_5]; rfl

/-! ### gavel/core.Act -/
structure GCoreAct where
  kind : Int
  round : Int
  valid : Int
  hash : GHash
deriving DecidableEq
instance : Inhabited GCoreAct := ⟨⟨0, 0, 0, default⟩⟩
def GCoreAct.enc (x : GCoreAct) : List Value := [(.int .i64 x.kind)] ++ ([(.int .i64 x.round)] ++ ([(.int .i64 x.valid)] ++ (x.hash.enc)))
theorem GCoreAct.enc_len (x : GCoreAct) : x.enc.length = 35 := by simp [GCoreAct.enc, GHash.enc_len]
theorem GCoreAct.enc_one (x : GCoreAct) : ∀ u ∈ x.enc, u.oneCell' = true := by
  intro u hu
  simp only [GCoreAct.enc, List.mem_append, List.mem_singleton] at hu
  rcases hu with hu | hu | hu | hu
  · subst hu; rfl
  · subst hu; rfl
  · subst hu; rfl
  · exact Enc.one (α := GHash) _ _ hu
theorem GCoreAct.enc_inj (x y : GCoreAct) (h : x.enc = y.enc) : x = y := by
  obtain ⟨a0, a1, a2, a3⟩ := x
  obtain ⟨b0, b1, b2, b3⟩ := y
  simp only [GCoreAct.enc] at h
  obtain ⟨p0, q0⟩ := List.append_inj h (rfl)
  have e0 : a0 = b0 := by have := List.head_eq_of_cons_eq p0; injection this
  obtain ⟨p1, q1⟩ := List.append_inj q0 (rfl)
  have e1 : a1 = b1 := by have := List.head_eq_of_cons_eq p1; injection this
  obtain ⟨p2, q2⟩ := List.append_inj q1 (rfl)
  have e2 : a2 = b2 := by have := List.head_eq_of_cons_eq p2; injection this
  have e3 := Enc.inj (α := GHash) _ _ q2
  rw [e0, e1, e2, e3]
instance : Enc GCoreAct where
  n := 35
  enc := GCoreAct.enc
  pos := by omega
  len := GCoreAct.enc_len
  one := GCoreAct.enc_one
  inj := GCoreAct.enc_inj
@[go_sem] theorem GCoreAct.n_eq : Enc.n GCoreAct = 35 := rfl
@[irreducible] def GCoreAct.val (x : GCoreAct) : Value := .agg x.enc.toArray
theorem GCoreAct.val_eq (x : GCoreAct) : GCoreAct.val x = .agg (Enc.enc x).toArray := by unfold GCoreAct.val; rfl
theorem uu193 : Tryz.prog.underlying 193 = some (.struct (Tryz.prog.fieldsOf 193)) := by kernel_rfl
@[go_sem ↓ high] theorem xl_GCoreAct (ρ : Operand → Value) (dst : Option Tmp) (x : Operand) (ty : TypeId) (pos : String) (after : Array Edge) (guard : Option (Nat × Bool)) : execOp ρ { dst, op := .load 193 x, type := ty, pos, after, guard } = (do pure (.value (← gLoad 193 (ρ x)))) := ex_load ..
@[go_sem ↓ high] theorem xs_GCoreAct (ρ : Operand → Value) (dst : Option Tmp) (x y : Operand) (ty : TypeId) (pos : String) (after : Array Edge) (guard : Option (Nat × Bool)) : execOp ρ { dst, op := .store 193 x y, type := ty, pos, after, guard } = (do gStore 193 (ρ x) (ρ y); pure .skip) := ex_store ..
@[go_sem ↓ high] theorem xb_GCoreAct (ρ : Operand → Value) (dst : Option Tmp) (x : Operand) (ty : TypeId) (pos : String) (after : Array Edge) (guard : Option (Nat × Bool)) : execOp ρ { dst, op := .box 193 x, type := ty, pos, after, guard } = (do pure (.value (← gBox 193 (ρ x)))) := ex_box ..
@[go_sem ↓ high] theorem xa_GCoreAct (ρ : Operand → Value) (dst : Option Tmp) (ty : TypeId) (pos : String) (after : Array Edge) (guard : Option (Nat × Bool)) : execOp ρ { dst, op := .alloc 193, type := ty, pos, after, guard } = (do pure (.value (← gAlloc 193))) := ex_alloc ..
theorem ag193 : aggT Tryz.prog 193 = true := by kernel_rfl
theorem sz193 : sizeT Tryz.prog 193 = 35 := by kernel_rfl
section
variable (w : World)
@[go_sem ↓ high] theorem ld_GCoreAct (a : Addr) : (gLoad 193 (.pointer (some a))).run Tryz.prog w = ofOpt ((get? GCoreAct w a).map GCoreAct.val) w (noLoad Tryz.prog 193 a w) := by
  unfold gLoad; exact run_loadAt_opt ag193 sz193 GCoreAct.val GCoreAct.val_eq
@[go_sem ↓ high] theorem st_GCoreAct (a : Addr) (x : GCoreAct) : (gStore 193 (.pointer (some a)) (GCoreAct.val x)).run Tryz.prog w = okU' ((get? GCoreAct w a).isSome && blkFree w a.block) (World.putCells w a (GCoreAct.enc x)) (noStore Tryz.prog 193 (.pointer (some a)) (GCoreAct.val x) w) := run_gStore_any sz193 GCoreAct.val GCoreAct.val_eq w a x
@[go_sem ↓ high] theorem bx_GCoreAct (x : GCoreAct) : (gBox 193 (GCoreAct.val x)).run Tryz.prog w = .ok (.pointer (some ⟨w.heap.size, 0, none⟩)) (w.alloc (.cells (GCoreAct.enc x).toArray 193)) := by
  rw [GCoreAct.val_eq]; exact run_gBox _ w
end
theorem lk193_0 (x : GCoreAct) : x.enc[0]? = some (.int .i64 x.kind) := by
  simp [GCoreAct.enc, List.getElem?_append]
theorem lk193_1 (x : GCoreAct) : x.enc[1]? = some (.int .i64 x.round) := by
  simp [GCoreAct.enc, List.getElem?_append]
theorem lk193_2 (x : GCoreAct) : x.enc[2]? = some (.int .i64 x.valid) := by
  simp [GCoreAct.enc, List.getElem?_append]
theorem ds193_3 (x : GCoreAct) : (x.enc.drop 3).take 32 = x.hash.enc := by
  unfold GCoreAct.enc
  simp [List.drop_append, List.drop_eq_nil_of_le] <;> (exact List.take_of_length_le (by simp [GHash.enc_len]))
theorem zr193 : zeroT Tryz.prog 193 = some (.agg (GCoreAct.enc default).toArray) := by kernel_rfl
@[go_sem ↓ high] theorem al_GCoreAct (w : World) : (gAlloc 193).run Tryz.prog w = .ok (.pointer (some ⟨w.heap.size, 0, none⟩)) (w.alloc (.cells (GCoreAct.enc default).toArray 193)) := run_zero_alloc zr193 w
@[go_sem] theorem pc_GCoreAct (w : World) (n : Nat) (x z : GCoreAct) (hn : n = w.heap.size) : World.putCells (w.alloc (.cells (GCoreAct.enc z).toArray 193)) ⟨n, 0, none⟩ (GCoreAct.enc x) = w.alloc (.cells (GCoreAct.enc x).toArray 193) := putCells_top x z hn
theorem GCoreAct.at_kind {w : World} {a : Addr} {x : GCoreAct} (h : get? GCoreAct w a = some x) : w.cell? (a.add 0) = some (.int .i64 x.kind) := (get?_iff.1 h) _ _ (lk193_0 x)
theorem GCoreAct.at_round {w : World} {a : Addr} {x : GCoreAct} (h : get? GCoreAct w a = some x) : w.cell? (a.add 1) = some (.int .i64 x.round) := (get?_iff.1 h) _ _ (lk193_1 x)
theorem GCoreAct.at_valid {w : World} {a : Addr} {x : GCoreAct} (h : get? GCoreAct w a = some x) : w.cell? (a.add 2) = some (.int .i64 x.valid) := (get?_iff.1 h) _ _ (lk193_2 x)
theorem GCoreAct.at_hash {w : World} {a : Addr} {x : GCoreAct} (h : get? GCoreAct w a = some x) : get? GHash w (a.add 3) = some x.hash := by
  rw [get?_iff] at h ⊢
  refine h.sub 3 fun j v hv => ?_
  have hd := ds193_3 x
  have hj : j < 32 := by have := (List.getElem?_eq_some_iff.1 hv).1; rwa [Enc.len] at this
  show x.enc[3 + j]? = some v
  rw [← List.getElem?_drop, ← List.getElem?_take_of_lt hj, hd]; exact hv
@[go_sem] theorem nw193 (w : World) (n : Nat) (x : GCoreAct) (hn : n = w.heap.size) : get? GCoreAct (w.alloc (.cells (GCoreAct.enc x).toArray 193)) ⟨n, 0, none⟩ = some x := by
  subst hn; exact get?_new 193 x
theorem pl193 : ((Tryz.prog.fieldsOf 193).toList.mapM fun f => (Tryz.prog.info? f.type).map fun i => (f.offset, i.size)) = some [(0, 1), (1, 1), (2, 1), (3, 32)] := by kernel_rfl
theorem fs193_0 (x : GCoreAct) (v : Int) (rest : List (Nat × Value)) : Instr.fill (fun i => ([(0, 1), (1, 1), (2, 1), (3, 32)] : List (Nat × Nat))[i]?) x.enc.toArray ((0, (.int .i64 v)) :: rest) = Instr.fill (fun i => ([(0, 1), (1, 1), (2, 1), (3, 32)] : List (Nat × Nat))[i]?) ({ x with kind := v } : GCoreAct).enc.toArray rest := by
  have h := fill_seg [(0, 1), (1, 1), (2, 1), (3, 32)] 0 0 1 rfl (([] : List Value)) ([(.int .i64 x.kind)]) ([(.int .i64 x.round)] ++ ([(.int .i64 x.valid)] ++ (x.hash.enc ++ (([] : List Value))))) ([(.int .i64 v)]) (.int .i64 v) rest (rfl) (by simp [GHash.enc_len]) (by simp [GHash.enc_len]) (by simp [GHash.enc_len])
  have e1 : x.enc = (([] : List Value)) ++ ([(.int .i64 x.kind)] ++ ([(.int .i64 x.round)] ++ ([(.int .i64 x.valid)] ++ (x.hash.enc ++ (([] : List Value)))))) := by simp only [GCoreAct.enc, List.nil_append, List.append_assoc, List.append_nil]
  have e2 : ({ x with kind := v } : GCoreAct).enc = (([] : List Value)) ++ ([(.int .i64 v)] ++ ([(.int .i64 x.round)] ++ ([(.int .i64 x.valid)] ++ (x.hash.enc ++ (([] : List Value)))))) := by simp only [GCoreAct.enc, List.nil_append, List.append_assoc, List.append_nil]
  rw [e1, e2]; exact h
theorem fs193_1 (x : GCoreAct) (v : Int) (rest : List (Nat × Value)) : Instr.fill (fun i => ([(0, 1), (1, 1), (2, 1), (3, 32)] : List (Nat × Nat))[i]?) x.enc.toArray ((1, (.int .i64 v)) :: rest) = Instr.fill (fun i => ([(0, 1), (1, 1), (2, 1), (3, 32)] : List (Nat × Nat))[i]?) ({ x with round := v } : GCoreAct).enc.toArray rest := by
  have h := fill_seg [(0, 1), (1, 1), (2, 1), (3, 32)] 1 1 1 rfl (([] : List Value) ++ ([(.int .i64 x.kind)])) ([(.int .i64 x.round)]) ([(.int .i64 x.valid)] ++ (x.hash.enc ++ (([] : List Value)))) ([(.int .i64 v)]) (.int .i64 v) rest (rfl) (by simp [GHash.enc_len]) (by simp [GHash.enc_len]) (by simp [GHash.enc_len])
  have e1 : x.enc = (([] : List Value) ++ ([(.int .i64 x.kind)])) ++ ([(.int .i64 x.round)] ++ ([(.int .i64 x.valid)] ++ (x.hash.enc ++ (([] : List Value))))) := by simp only [GCoreAct.enc, List.nil_append, List.append_assoc, List.append_nil]
  have e2 : ({ x with round := v } : GCoreAct).enc = (([] : List Value) ++ ([(.int .i64 x.kind)])) ++ ([(.int .i64 v)] ++ ([(.int .i64 x.valid)] ++ (x.hash.enc ++ (([] : List Value))))) := by simp only [GCoreAct.enc, List.nil_append, List.append_assoc, List.append_nil]
  rw [e1, e2]; exact h
theorem fs193_2 (x : GCoreAct) (v : Int) (rest : List (Nat × Value)) : Instr.fill (fun i => ([(0, 1), (1, 1), (2, 1), (3, 32)] : List (Nat × Nat))[i]?) x.enc.toArray ((2, (.int .i64 v)) :: rest) = Instr.fill (fun i => ([(0, 1), (1, 1), (2, 1), (3, 32)] : List (Nat × Nat))[i]?) ({ x with valid := v } : GCoreAct).enc.toArray rest := by
  have h := fill_seg [(0, 1), (1, 1), (2, 1), (3, 32)] 2 2 1 rfl (([] : List Value) ++ ([(.int .i64 x.kind)] ++ ([(.int .i64 x.round)]))) ([(.int .i64 x.valid)]) (x.hash.enc ++ (([] : List Value))) ([(.int .i64 v)]) (.int .i64 v) rest (rfl) (by simp [GHash.enc_len]) (by simp [GHash.enc_len]) (by simp [GHash.enc_len])
  have e1 : x.enc = (([] : List Value) ++ ([(.int .i64 x.kind)] ++ ([(.int .i64 x.round)]))) ++ ([(.int .i64 x.valid)] ++ (x.hash.enc ++ (([] : List Value)))) := by simp only [GCoreAct.enc, List.nil_append, List.append_assoc, List.append_nil]
  have e2 : ({ x with valid := v } : GCoreAct).enc = (([] : List Value) ++ ([(.int .i64 x.kind)] ++ ([(.int .i64 x.round)]))) ++ ([(.int .i64 v)] ++ (x.hash.enc ++ (([] : List Value)))) := by simp only [GCoreAct.enc, List.nil_append, List.append_assoc, List.append_nil]
  rw [e1, e2]; exact h
theorem fs193_3 (x : GCoreAct) (v : GHash) (rest : List (Nat × Value)) : Instr.fill (fun i => ([(0, 1), (1, 1), (2, 1), (3, 32)] : List (Nat × Nat))[i]?) x.enc.toArray ((3, (v.val)) :: rest) = Instr.fill (fun i => ([(0, 1), (1, 1), (2, 1), (3, 32)] : List (Nat × Nat))[i]?) ({ x with hash := v } : GCoreAct).enc.toArray rest := by
  have h := fill_seg [(0, 1), (1, 1), (2, 1), (3, 32)] 3 3 32 rfl (([] : List Value) ++ ([(.int .i64 x.kind)] ++ ([(.int .i64 x.round)] ++ ([(.int .i64 x.valid)])))) (x.hash.enc) (([] : List Value)) (v.enc) (v.val) rest (by rw [GHash.val_eq]; rfl) (by simp [GHash.enc_len]) (by simp [GHash.enc_len]) (by simp [GHash.enc_len])
  have e1 : x.enc = (([] : List Value) ++ ([(.int .i64 x.kind)] ++ ([(.int .i64 x.round)] ++ ([(.int .i64 x.valid)])))) ++ (x.hash.enc ++ (([] : List Value))) := by simp only [GCoreAct.enc, List.nil_append, List.append_assoc, List.append_nil]
  have e2 : ({ x with hash := v } : GCoreAct).enc = (([] : List Value) ++ ([(.int .i64 x.kind)] ++ ([(.int .i64 x.round)] ++ ([(.int .i64 x.valid)])))) ++ (v.enc ++ (([] : List Value))) := by simp only [GCoreAct.enc, List.nil_append, List.append_assoc, List.append_nil]
  rw [e1, e2]; exact h
@[go_sem ↓ high] theorem xd_GCoreAct (ρ : Operand → Value) (dst : Option Tmp) (ps : Array (Nat × Operand)) (ty : TypeId) (pos : String) (after : Array Edge) (guard : Option (Nat × Bool)) : execOp ρ { dst, op := .build 193 ps, type := ty, pos, after, guard } = (do pure (.value (← gBuild 193 (ps.map fun (i, x) => (i, ρ x))))) := ex_build ..
@[go_sem ↓ high] theorem bd193_0 (w : World) (v0 : Int) (v1 : Int) (v2 : Int) : (gBuild 193 #[(0, (.int .i64 v0)), (1, (.int .i64 v1)), (2, (.int .i64 v2))]).run Tryz.prog w = .ok (GCoreAct.val ⟨v0, v1, v2, default⟩) w := by
  rw [GCoreAct.val_eq]
  refine run_gBuild_of uu193 zr193 pl193 ?_ w
  show Instr.fill _ (GCoreAct.enc default).toArray [(0, (.int .i64 v0)), (1, (.int .i64 v1)), (2, (.int .i64 v2))] = _
  rw [fs193_0, fs193_1, fs193_2]; rfl
@[go_sem ↓ high] theorem bd193_1 (w : World) (v0 : Int) (v1 : Int) (v2 : Int) (v3 : GHash) : (gBuild 193 #[(0, (.int .i64 v0)), (1, (.int .i64 v1)), (2, (.int .i64 v2)), (3, (v3.val))]).run Tryz.prog w = .ok (GCoreAct.val ⟨v0, v1, v2, v3⟩) w := by
  rw [GCoreAct.val_eq]
  refine run_gBuild_of uu193 zr193 pl193 ?_ w
  show Instr.fill _ (GCoreAct.enc default).toArray [(0, (.int .i64 v0)), (1, (.int .i64 v1)), (2, (.int .i64 v2)), (3, (v3.val))] = _
  rw [fs193_0, fs193_1, fs193_2, fs193_3]; rfl
/-! ### gavel/core.proposal -/
structure GCoreProposal where
  valid : Int
  h : GHash
  ok : Bool
deriving DecidableEq
instance : Inhabited GCoreProposal := ⟨⟨0, default, false⟩⟩
def GCoreProposal.enc (x : GCoreProposal) : List Value := [(.int .i64 x.valid)] ++ (x.h.enc ++ ([(.bool x.ok)]))
theorem GCoreProposal.enc_len (x : GCoreProposal) : x.enc.length = 34 := by simp [GCoreProposal.enc, GHash.enc_len]
theorem GCoreProposal.enc_one (x : GCoreProposal) : ∀ u ∈ x.enc, u.oneCell' = true := by
  intro u hu
  simp only [GCoreProposal.enc, List.mem_append, List.mem_singleton] at hu
  rcases hu with hu | hu | hu
  · subst hu; rfl
  · exact Enc.one (α := GHash) _ _ hu
  · subst hu; rfl
theorem GCoreProposal.enc_inj (x y : GCoreProposal) (h : x.enc = y.enc) : x = y := by
  obtain ⟨a0, a1, a2⟩ := x
  obtain ⟨b0, b1, b2⟩ := y
  simp only [GCoreProposal.enc] at h
  obtain ⟨p0, q0⟩ := List.append_inj h (rfl)
  have e0 : a0 = b0 := by have := List.head_eq_of_cons_eq p0; injection this
  obtain ⟨p1, q1⟩ := List.append_inj q0 (by simp [GHash.enc_len])
  have e1 := Enc.inj (α := GHash) _ _ p1
  have e2 : a2 = b2 := by have := List.head_eq_of_cons_eq q1; injection this
  rw [e0, e1, e2]
instance : Enc GCoreProposal where
  n := 34
  enc := GCoreProposal.enc
  pos := by omega
  len := GCoreProposal.enc_len
  one := GCoreProposal.enc_one
  inj := GCoreProposal.enc_inj
@[go_sem] theorem GCoreProposal.n_eq : Enc.n GCoreProposal = 34 := rfl
@[irreducible] def GCoreProposal.val (x : GCoreProposal) : Value := .agg x.enc.toArray
theorem GCoreProposal.val_eq (x : GCoreProposal) : GCoreProposal.val x = .agg (Enc.enc x).toArray := by unfold GCoreProposal.val; rfl
@[go_sem ↓ high] theorem xs_GCoreProposal (ρ : Operand → Value) (dst : Option Tmp) (x y : Operand) (ty : TypeId) (pos : String) (after : Array Edge) (guard : Option (Nat × Bool)) : execOp ρ { dst, op := .store 306 x y, type := ty, pos, after, guard } = (do gStore 306 (ρ x) (ρ y); pure .skip) := ex_store ..
@[go_sem ↓ high] theorem xa_GCoreProposal (ρ : Operand → Value) (dst : Option Tmp) (ty : TypeId) (pos : String) (after : Array Edge) (guard : Option (Nat × Bool)) : execOp ρ { dst, op := .alloc 306, type := ty, pos, after, guard } = (do pure (.value (← gAlloc 306))) := ex_alloc ..
theorem sz306 : sizeT Tryz.prog 306 = 34 := by kernel_rfl
section
variable (w : World)
@[go_sem ↓ high] theorem st_GCoreProposal (a : Addr) (x : GCoreProposal) : (gStore 306 (.pointer (some a)) (GCoreProposal.val x)).run Tryz.prog w = okU' ((get? GCoreProposal w a).isSome && blkFree w a.block) (World.putCells w a (GCoreProposal.enc x)) (noStore Tryz.prog 306 (.pointer (some a)) (GCoreProposal.val x) w) := run_gStore_any sz306 GCoreProposal.val GCoreProposal.val_eq w a x
end
theorem zr306 : zeroT Tryz.prog 306 = some (.agg (GCoreProposal.enc default).toArray) := by kernel_rfl
@[go_sem ↓ high] theorem al_GCoreProposal (w : World) : (gAlloc 306).run Tryz.prog w = .ok (.pointer (some ⟨w.heap.size, 0, none⟩)) (w.alloc (.cells (GCoreProposal.enc default).toArray 306)) := run_zero_alloc zr306 w
/-! ### []core.Act -/
theorem ei126 : ElemI Tryz.prog 126 193 GCoreAct 56 := ⟨by kernel_rfl, by kernel_rfl⟩
@[go_sem ↓ high] theorem xg_126 (ρ : Operand → Value) (dst : Option Tmp) (ps : Array (Nat × Operand)) (ty : TypeId) (pos : String) (after : Array Edge) (guard : Option (Nat × Bool)) : execOp ρ { dst, op := .buildSlice 126 1 ps, type := ty, pos, after, guard } = (do pure (.value (← gBuildSlice 126 1 (ps.map fun (i, x) => (i, ρ x))))) := ex_buildSlice ..
@[go_sem ↓ high] theorem bs_126 (w : World) (x : GCoreAct) : (gBuildSlice 126 1 #[(0, GCoreAct.val x)]).run Tryz.prog w = .ok (.slice (some ⟨w.heap.size, 0, none⟩) 1 1) (w.alloc (.cells (GCoreAct.enc x).toArray 193)) := by
  rw [GCoreAct.val_eq]; exact run_buildSlice_one ei126 (by decide) x w
instance : KEnc GTallyVoter := ⟨GTallyVoter.val, fun a b h => by rw [GTallyVoter.val_eq, GTallyVoter.val_eq] at h; injection h with h; exact Enc.inj _ _ (by simpa using congrArg Array.toList h)⟩
/-! ### map[tally.voter]bool -/
instance : KEnc GTallyTurn := ⟨GTallyTurn.val, fun a b h => by rw [GTallyTurn.val_eq, GTallyTurn.val_eq] at h; injection h with h; exact Enc.inj _ _ (by simpa using congrArg Array.toList h)⟩
theorem kl345 : KeyLaws Tryz.prog 345 GTallyTurn where
  chk := fun e k w => by
    show (Instr.checkKey e 10000 345 (GTallyTurn.val k)).run Tryz.prog w = _
    rw [GTallyTurn.val_eq]
    rw [run_checkKey_struct e 9999 _ w uu345 nb345, fl345]
    show (chkFs e 9999 k.enc.toArray _).run Tryz.prog w = _
    simp only [chkFs, Sem.run_bind, pt345_0, pt345_1, Result.andThen_ok, run_checkKey_one e 9998 uk3, Sem.run_pure]
  fnd := fnd_struct (fun k k' w => eq_GTallyTurn w 9998 k k') uu345 (fun k k' => by show Instr.sameNow _ (GTallyTurn.val k) (GTallyTurn.val k') = none; rw [GTallyTurn.val_eq, GTallyTurn.val_eq]; rfl)
  same := fun k => by
    show Instr.sameBits 10000 (GTallyTurn.val k) (GTallyTurn.val k) = true
    rw [GTallyTurn.val_eq]
    exact sameBits_cells 9999 _ (Enc.one k) (fun u hu => by
      have hu' : u ∈ k.enc := hu
      unfold GTallyTurn.enc at hu'
      simp only [List.mem_append, List.mem_singleton] at hu'
      rcases hu' with rfl | rfl <;> exact sameBits_int _ _ _)

/-! ### map[tally.turn]int -/
theorem um333 : Tryz.prog.underlying 333 = some (.map 345 3) := by kernel_rfl
theorem zv333_3 : zeroT Tryz.prog 3 = some (VEnc.vv (0 : Int)) := by kernel_rfl
@[go_sem ↓ high] theorem xk_333 (ρ : Operand → Value) (dst : Option Tmp) (x y : Operand) (ok : Bool) (ty : TypeId) (pos : String) (after : Array Edge) (guard : Option (Nat × Bool)) : execOp ρ { dst, op := .lookup 333 x y ok, type := ty, pos, after, guard } = (do pure (.value (← gLookup 333 (ρ x) (ρ y) ok))) := ex_lookup ..
@[go_sem ↓ high] theorem lk_333 (w : World) (r : Nat) (k : GTallyTurn) : (gLookup 333 (.map (some r)) (GTallyTurn.val k) false).run Tryz.prog w = ofOpt ((mapAt GTallyTurn Int w r).map fun m => (.int .i64 ((mget m k).getD 0))) w (noLookup Tryz.prog 333 (.map (some r)) (GTallyTurn.val k) false w) :=
  run_gLookup kl345 um333 zv333_3 w r k
/-! ### map[int]int -/
theorem um334 : Tryz.prog.underlying 334 = some (.map 3 3) := by kernel_rfl
instance : VEnc GCoreProposal := ⟨GCoreProposal.val, fun a b h => by rw [GCoreProposal.val_eq, GCoreProposal.val_eq] at h; injection h with h; exact Enc.inj _ _ (by simpa using congrArg Array.toList h)⟩

/-! ### map[int]core.proposal -/
theorem um199 : Tryz.prog.underlying 199 = some (.map 3 306) := by kernel_rfl
theorem zv199_306 : zeroT Tryz.prog 306 = some (VEnc.vv (default : GCoreProposal)) := by kernel_rfl
@[go_sem ↓ high] theorem xk_199 (ρ : Operand → Value) (dst : Option Tmp) (x y : Operand) (ok : Bool) (ty : TypeId) (pos : String) (after : Array Edge) (guard : Option (Nat × Bool)) : execOp ρ { dst, op := .lookup 199 x y ok, type := ty, pos, after, guard } = (do pure (.value (← gLookup 199 (ρ x) (ρ y) ok))) := ex_lookup ..
@[go_sem ↓ high] theorem lo_199 (w : World) (r : Nat) (k : Int) : (gLookup 199 (.map (some r)) (.int .i64 k) true).run Tryz.prog w = ofOpt ((mapAt Int GCoreProposal w r).map fun m => .tuple #[(GCoreProposal.val ((mget m k).getD default)), .bool (mget m k).isSome]) w (noLookup Tryz.prog 199 (.map (some r)) (.int .i64 k) true w) :=
  run_gLookup_ok kl3 um199 zv199_306 w r k
end Go.Proofs.YtfhhcgldikmejaaGreatDoor
/- The struct types of this seat as Lean types, with the runs of single operations over them. Conditions: those named in each theorem. -/
namespace Go.Proofs.YtfhhcgldikmejaaGreatDoor
open Go Go.RowKit Go.Gv
set_option linter.unusedSimpArgs false

/-! ### gavel/api.Vote -/
structure GVote where
  kind : Int
  epoch : Int
  round : Int
  replica : Int
  hash : GHash
  sig : GSig
deriving DecidableEq
instance : Inhabited GVote := ⟨⟨0, 0, 0, 0, default, default⟩⟩
def GVote.enc (x : GVote) : List Value := [(.int .i64 x.kind)] ++ ([(.int .i64 x.epoch)] ++ ([(.int .i64 x.round)] ++ ([(.int .i64 x.replica)] ++ (x.hash.enc ++ (x.sig.enc)))))
theorem GVote.enc_len (x : GVote) : x.enc.length = 38 := by simp [GVote.enc, GHash.enc_len, GSig.enc_len]
theorem GVote.enc_one (x : GVote) : ∀ u ∈ x.enc, u.oneCell' = true := by
  intro u hu
  simp only [GVote.enc, List.mem_append, List.mem_singleton] at hu
  rcases hu with hu | hu | hu | hu | hu | hu
  · subst hu; rfl
  · subst hu; rfl
  · subst hu; rfl
  · subst hu; rfl
  · exact Enc.one (α := GHash) _ _ hu
  · exact Enc.one (α := GSig) _ _ hu
theorem GVote.enc_inj (x y : GVote) (h : x.enc = y.enc) : x = y := by
  obtain ⟨a0, a1, a2, a3, a4, a5⟩ := x
  obtain ⟨b0, b1, b2, b3, b4, b5⟩ := y
  simp only [GVote.enc] at h
  obtain ⟨p0, q0⟩ := List.append_inj h (rfl)
  have e0 : a0 = b0 := by have := List.head_eq_of_cons_eq p0; injection this
  obtain ⟨p1, q1⟩ := List.append_inj q0 (rfl)
  have e1 : a1 = b1 := by have := List.head_eq_of_cons_eq p1; injection this
  obtain ⟨p2, q2⟩ := List.append_inj q1 (rfl)
  have e2 : a2 = b2 := by have := List.head_eq_of_cons_eq p2; injection this
  obtain ⟨p3, q3⟩ := List.append_inj q2 (rfl)
  have e3 : a3 = b3 := by have := List.head_eq_of_cons_eq p3; injection this
  obtain ⟨p4, q4⟩ := List.append_inj q3 (by simp [GHash.enc_len])
  have e4 := Enc.inj (α := GHash) _ _ p4
  have e5 := Enc.inj (α := GSig) _ _ q4
  rw [e0, e1, e2, e3, e4, e5]
instance : Enc GVote where
  n := 38
  enc := GVote.enc
  pos := by omega
  len := GVote.enc_len
  one := GVote.enc_one
  inj := GVote.enc_inj
@[go_sem] theorem GVote.n_eq : Enc.n GVote = 38 := rfl
@[irreducible] def GVote.val (x : GVote) : Value := .agg x.enc.toArray
theorem GVote.val_eq (x : GVote) : GVote.val x = .agg (Enc.enc x).toArray := by unfold GVote.val; rfl
section
variable (w : World)
end
/-! ### gavel/api.Ack -/
structure GAck where
  replica : Int
  name : GName
  hash : GHash
  median : Int
  sig : GSig
deriving DecidableEq
instance : Inhabited GAck := ⟨⟨0, default, default, 0, default⟩⟩
def GAck.enc (x : GAck) : List Value := [(.int .i64 x.replica)] ++ (x.name.enc ++ (x.hash.enc ++ ([(.int .u64 x.median)] ++ (x.sig.enc))))
theorem GAck.enc_len (x : GAck) : x.enc.length = 38 := by simp [GAck.enc, GHash.enc_len, GName.enc_len, GSig.enc_len]
theorem GAck.enc_one (x : GAck) : ∀ u ∈ x.enc, u.oneCell' = true := by
  intro u hu
  simp only [GAck.enc, List.mem_append, List.mem_singleton] at hu
  rcases hu with hu | hu | hu | hu | hu
  · subst hu; rfl
  · exact Enc.one (α := GName) _ _ hu
  · exact Enc.one (α := GHash) _ _ hu
  · subst hu; rfl
  · exact Enc.one (α := GSig) _ _ hu
theorem GAck.enc_inj (x y : GAck) (h : x.enc = y.enc) : x = y := by
  obtain ⟨a0, a1, a2, a3, a4⟩ := x
  obtain ⟨b0, b1, b2, b3, b4⟩ := y
  simp only [GAck.enc] at h
  obtain ⟨p0, q0⟩ := List.append_inj h (rfl)
  have e0 : a0 = b0 := by have := List.head_eq_of_cons_eq p0; injection this
  obtain ⟨p1, q1⟩ := List.append_inj q0 (by simp [GName.enc_len])
  have e1 := Enc.inj (α := GName) _ _ p1
  obtain ⟨p2, q2⟩ := List.append_inj q1 (by simp [GHash.enc_len])
  have e2 := Enc.inj (α := GHash) _ _ p2
  obtain ⟨p3, q3⟩ := List.append_inj q2 (rfl)
  have e3 : a3 = b3 := by have := List.head_eq_of_cons_eq p3; injection this
  have e4 := Enc.inj (α := GSig) _ _ q3
  rw [e0, e1, e2, e3, e4]
instance : Enc GAck where
  n := 38
  enc := GAck.enc
  pos := by omega
  len := GAck.enc_len
  one := GAck.enc_one
  inj := GAck.enc_inj
@[go_sem] theorem GAck.n_eq : Enc.n GAck = 38 := rfl
@[irreducible] def GAck.val (x : GAck) : Value := .agg x.enc.toArray
section
variable (w : World)
end
/-! ### gavel/api.Proposal -/
structure GProposal where
  epoch : Int
  round : Int
  valid : Int
  replica : Int
  batch : GBatch
  sig : GSig
deriving DecidableEq
instance : Inhabited GProposal := ⟨⟨0, 0, 0, 0, default, default⟩⟩
def GProposal.enc (x : GProposal) : List Value := [(.int .i64 x.epoch)] ++ ([(.int .i64 x.round)] ++ ([(.int .i64 x.valid)] ++ ([(.int .i64 x.replica)] ++ (x.batch.enc ++ (x.sig.enc)))))
theorem GProposal.enc_len (x : GProposal) : x.enc.length = 11 := by simp [GProposal.enc, GBatch.enc_len, GSig.enc_len]
theorem GProposal.enc_one (x : GProposal) : ∀ u ∈ x.enc, u.oneCell' = true := by
  intro u hu
  simp only [GProposal.enc, List.mem_append, List.mem_singleton] at hu
  rcases hu with hu | hu | hu | hu | hu | hu
  · subst hu; rfl
  · subst hu; rfl
  · subst hu; rfl
  · subst hu; rfl
  · exact Enc.one (α := GBatch) _ _ hu
  · exact Enc.one (α := GSig) _ _ hu
theorem GProposal.enc_inj (x y : GProposal) (h : x.enc = y.enc) : x = y := by
  obtain ⟨a0, a1, a2, a3, a4, a5⟩ := x
  obtain ⟨b0, b1, b2, b3, b4, b5⟩ := y
  simp only [GProposal.enc] at h
  obtain ⟨p0, q0⟩ := List.append_inj h (rfl)
  have e0 : a0 = b0 := by have := List.head_eq_of_cons_eq p0; injection this
  obtain ⟨p1, q1⟩ := List.append_inj q0 (rfl)
  have e1 : a1 = b1 := by have := List.head_eq_of_cons_eq p1; injection this
  obtain ⟨p2, q2⟩ := List.append_inj q1 (rfl)
  have e2 : a2 = b2 := by have := List.head_eq_of_cons_eq p2; injection this
  obtain ⟨p3, q3⟩ := List.append_inj q2 (rfl)
  have e3 : a3 = b3 := by have := List.head_eq_of_cons_eq p3; injection this
  obtain ⟨p4, q4⟩ := List.append_inj q3 (by simp [GBatch.enc_len])
  have e4 := Enc.inj (α := GBatch) _ _ p4
  have e5 := Enc.inj (α := GSig) _ _ q4
  rw [e0, e1, e2, e3, e4, e5]
instance : Enc GProposal where
  n := 11
  enc := GProposal.enc
  pos := by omega
  len := GProposal.enc_len
  one := GProposal.enc_one
  inj := GProposal.enc_inj
@[go_sem] theorem GProposal.n_eq : Enc.n GProposal = 11 := rfl
@[irreducible] def GProposal.val (x : GProposal) : Value := .agg x.enc.toArray
section
variable (w : World)
end
theorem ds56_4 (x : GProposal) : (x.enc.drop 4).take 5 = x.batch.enc := by
  unfold GProposal.enc
  simp [List.drop_append, List.drop_eq_nil_of_le] <;> (rw [List.take_append_of_le_length (by simp [GBatch.enc_len])]; exact List.take_of_length_le (by simp [GBatch.enc_len]))
theorem GProposal.at_batch {w : World} {a : Addr} {x : GProposal} (h : get? GProposal w a = some x) : get? GBatch w (a.add 4) = some x.batch := by
  rw [get?_iff] at h ⊢
  refine h.sub 4 fun j v hv => ?_
  have hd := ds56_4 x
  have hj : j < 5 := by have := (List.getElem?_eq_some_iff.1 hv).1; rwa [Enc.len] at this
  show x.enc[4 + j]? = some v
  rw [← List.getElem?_drop, ← List.getElem?_take_of_lt hj, hd]; exact hv
/-! ### gavel/api.Decided -/
structure GDecided where
  epoch : Int
  round : Int
  batch : GBatch
  votes : Hdr
deriving DecidableEq
instance : Inhabited GDecided := ⟨⟨0, 0, default, default⟩⟩
def GDecided.enc (x : GDecided) : List Value := [(.int .i64 x.epoch)] ++ ([(.int .i64 x.round)] ++ (x.batch.enc ++ ([(x.votes.val)])))
theorem GDecided.enc_len (x : GDecided) : x.enc.length = 8 := by simp [GDecided.enc, GBatch.enc_len]
theorem GDecided.enc_one (x : GDecided) : ∀ u ∈ x.enc, u.oneCell' = true := by
  intro u hu
  simp only [GDecided.enc, List.mem_append, List.mem_singleton] at hu
  rcases hu with hu | hu | hu | hu
  · subst hu; rfl
  · subst hu; rfl
  · exact Enc.one (α := GBatch) _ _ hu
  · subst hu; rfl
theorem GDecided.enc_inj (x y : GDecided) (h : x.enc = y.enc) : x = y := by
  obtain ⟨a0, a1, a2, a3⟩ := x
  obtain ⟨b0, b1, b2, b3⟩ := y
  simp only [GDecided.enc] at h
  obtain ⟨p0, q0⟩ := List.append_inj h (rfl)
  have e0 : a0 = b0 := by have := List.head_eq_of_cons_eq p0; injection this
  obtain ⟨p1, q1⟩ := List.append_inj q0 (rfl)
  have e1 : a1 = b1 := by have := List.head_eq_of_cons_eq p1; injection this
  obtain ⟨p2, q2⟩ := List.append_inj q1 (by simp [GBatch.enc_len])
  have e2 := Enc.inj (α := GBatch) _ _ p2
  have e3 : a3 = b3 := Enc.inj (α := Hdr) _ _ q2
  rw [e0, e1, e2, e3]
instance : Enc GDecided where
  n := 8
  enc := GDecided.enc
  pos := by omega
  len := GDecided.enc_len
  one := GDecided.enc_one
  inj := GDecided.enc_inj
@[go_sem] theorem GDecided.n_eq : Enc.n GDecided = 8 := rfl
@[irreducible] def GDecided.val (x : GDecided) : Value := .agg x.enc.toArray
section
variable (w : World)
end
theorem ds68_2 (x : GDecided) : (x.enc.drop 2).take 5 = x.batch.enc := by
  unfold GDecided.enc
  simp [List.drop_append, List.drop_eq_nil_of_le] <;> (rw [List.take_append_of_le_length (by simp [GBatch.enc_len])]; exact List.take_of_length_le (by simp [GBatch.enc_len]))
theorem lk68_3 (x : GDecided) : x.enc[7]? = some (x.votes.val) := by
  simp [GDecided.enc, List.getElem?_append, GBatch.enc_len]
theorem GDecided.at_batch {w : World} {a : Addr} {x : GDecided} (h : get? GDecided w a = some x) : get? GBatch w (a.add 2) = some x.batch := by
  rw [get?_iff] at h ⊢
  refine h.sub 2 fun j v hv => ?_
  have hd := ds68_2 x
  have hj : j < 5 := by have := (List.getElem?_eq_some_iff.1 hv).1; rwa [Enc.len] at this
  show x.enc[2 + j]? = some v
  rw [← List.getElem?_drop, ← List.getElem?_take_of_lt hj, hd]; exact hv
theorem GDecided.at_votes {w : World} {a : Addr} {x : GDecided} (h : get? GDecided w a = some x) : w.cell? (a.add 7) = some (x.votes.val) := (get?_iff.1 h) _ _ (lk68_3 x)
/-! ### gavel/api.Msg -/
structure GMsg where
  kind : Int
  from_ : Int
  to : Int
  commit : GCommit
  stamp : GStamp
  cert : GCert
  ack : GAck
  epoch : Int
  round : Int
  time : Int
  promise : GPromise
  proposal : GProposal
  vote : GVote
  index : Int
  entry : GEntry
  opening : GOpening
  deny : GDeny
  reply : ByteArray
  decided : GDecided
deriving DecidableEq
instance : Inhabited GMsg := ⟨⟨0, 0, 0, default, default, default, default, 0, 0, 0, default, default, default, 0, default, default, default, ByteArray.empty, default⟩⟩
def GMsg.enc (x : GMsg) : List Value := [(.int .i64 x.kind)] ++ ([(.int .i64 x.from_)] ++ ([(.int .i64 x.to)] ++ (x.commit.enc ++ (x.stamp.enc ++ (x.cert.enc ++ (x.ack.enc ++ ([(.int .i64 x.epoch)] ++ ([(.int .i64 x.round)] ++ ([(.int .u64 x.time)] ++ (x.promise.enc ++ (x.proposal.enc ++ (x.vote.enc ++ ([(.int .i64 x.index)] ++ (x.entry.enc ++ (x.opening.enc ++ (x.deny.enc ++ ([(.string x.reply)] ++ (x.decided.enc))))))))))))))))))
theorem GMsg.enc_len (x : GMsg) : x.enc.length = 295 := by simp [GMsg.enc, GAck.enc_len, GCert.enc_len, GCommit.enc_len, GDecided.enc_len, GDeny.enc_len, GEntry.enc_len, GOpening.enc_len, GPromise.enc_len, GProposal.enc_len, GStamp.enc_len, GVote.enc_len]
theorem GMsg.enc_one (x : GMsg) : ∀ u ∈ x.enc, u.oneCell' = true := by
  intro u hu
  simp only [GMsg.enc, List.mem_append, List.mem_singleton] at hu
  rcases hu with hu | hu | hu | hu | hu | hu | hu | hu | hu | hu | hu | hu | hu | hu | hu | hu | hu | hu | hu
  · subst hu; rfl
  · subst hu; rfl
  · subst hu; rfl
  · exact Enc.one (α := GCommit) _ _ hu
  · exact Enc.one (α := GStamp) _ _ hu
  · exact Enc.one (α := GCert) _ _ hu
  · exact Enc.one (α := GAck) _ _ hu
  · subst hu; rfl
  · subst hu; rfl
  · subst hu; rfl
  · exact Enc.one (α := GPromise) _ _ hu
  · exact Enc.one (α := GProposal) _ _ hu
  · exact Enc.one (α := GVote) _ _ hu
  · subst hu; rfl
  · exact Enc.one (α := GEntry) _ _ hu
  · exact Enc.one (α := GOpening) _ _ hu
  · exact Enc.one (α := GDeny) _ _ hu
  · subst hu; rfl
  · exact Enc.one (α := GDecided) _ _ hu
theorem GMsg.enc_inj (x y : GMsg) (h : x.enc = y.enc) : x = y := by
  obtain ⟨a0, a1, a2, a3, a4, a5, a6, a7, a8, a9, a10, a11, a12, a13, a14, a15, a16, a17, a18⟩ := x
  obtain ⟨b0, b1, b2, b3, b4, b5, b6, b7, b8, b9, b10, b11, b12, b13, b14, b15, b16, b17, b18⟩ := y
  simp only [GMsg.enc] at h
  obtain ⟨p0, q0⟩ := List.append_inj h (rfl)
  have e0 : a0 = b0 := by have := List.head_eq_of_cons_eq p0; injection this
  obtain ⟨p1, q1⟩ := List.append_inj q0 (rfl)
  have e1 : a1 = b1 := by have := List.head_eq_of_cons_eq p1; injection this
  obtain ⟨p2, q2⟩ := List.append_inj q1 (rfl)
  have e2 : a2 = b2 := by have := List.head_eq_of_cons_eq p2; injection this
  obtain ⟨p3, q3⟩ := List.append_inj q2 (by simp [GCommit.enc_len])
  have e3 := Enc.inj (α := GCommit) _ _ p3
  obtain ⟨p4, q4⟩ := List.append_inj q3 (by simp [GStamp.enc_len])
  have e4 := Enc.inj (α := GStamp) _ _ p4
  obtain ⟨p5, q5⟩ := List.append_inj q4 (by simp [GCert.enc_len])
  have e5 := Enc.inj (α := GCert) _ _ p5
  obtain ⟨p6, q6⟩ := List.append_inj q5 (by simp [GAck.enc_len])
  have e6 := Enc.inj (α := GAck) _ _ p6
  obtain ⟨p7, q7⟩ := List.append_inj q6 (rfl)
  have e7 : a7 = b7 := by have := List.head_eq_of_cons_eq p7; injection this
  obtain ⟨p8, q8⟩ := List.append_inj q7 (rfl)
  have e8 : a8 = b8 := by have := List.head_eq_of_cons_eq p8; injection this
  obtain ⟨p9, q9⟩ := List.append_inj q8 (rfl)
  have e9 : a9 = b9 := by have := List.head_eq_of_cons_eq p9; injection this
  obtain ⟨p10, q10⟩ := List.append_inj q9 (by simp [GPromise.enc_len])
  have e10 := Enc.inj (α := GPromise) _ _ p10
  obtain ⟨p11, q11⟩ := List.append_inj q10 (by simp [GProposal.enc_len])
  have e11 := Enc.inj (α := GProposal) _ _ p11
  obtain ⟨p12, q12⟩ := List.append_inj q11 (by simp [GVote.enc_len])
  have e12 := Enc.inj (α := GVote) _ _ p12
  obtain ⟨p13, q13⟩ := List.append_inj q12 (rfl)
  have e13 : a13 = b13 := by have := List.head_eq_of_cons_eq p13; injection this
  obtain ⟨p14, q14⟩ := List.append_inj q13 (by simp [GEntry.enc_len])
  have e14 := Enc.inj (α := GEntry) _ _ p14
  obtain ⟨p15, q15⟩ := List.append_inj q14 (by simp [GOpening.enc_len])
  have e15 := Enc.inj (α := GOpening) _ _ p15
  obtain ⟨p16, q16⟩ := List.append_inj q15 (by simp [GDeny.enc_len])
  have e16 := Enc.inj (α := GDeny) _ _ p16
  obtain ⟨p17, q17⟩ := List.append_inj q16 (rfl)
  have e17 : a17 = b17 := by have := List.head_eq_of_cons_eq p17; injection this
  have e18 := Enc.inj (α := GDecided) _ _ q17
  rw [e0, e1, e2, e3, e4, e5, e6, e7, e8, e9, e10, e11, e12, e13, e14, e15, e16, e17, e18]
instance : Enc GMsg where
  n := 295
  enc := GMsg.enc
  pos := by omega
  len := GMsg.enc_len
  one := GMsg.enc_one
  inj := GMsg.enc_inj
@[go_sem] theorem GMsg.n_eq : Enc.n GMsg = 295 := rfl
@[irreducible] def GMsg.val (x : GMsg) : Value := .agg x.enc.toArray
theorem GMsg.val_eq (x : GMsg) : GMsg.val x = .agg (Enc.enc x).toArray := by unfold GMsg.val; rfl
theorem uu70 : Tryz.prog.underlying 70 = some (.struct (Tryz.prog.fieldsOf 70)) := by kernel_rfl
@[go_sem ↓ high] theorem xl_GMsg (ρ : Operand → Value) (dst : Option Tmp) (x : Operand) (ty : TypeId) (pos : String) (after : Array Edge) (guard : Option (Nat × Bool)) : execOp ρ { dst, op := .load 70 x, type := ty, pos, after, guard } = (do pure (.value (← gLoad 70 (ρ x)))) := ex_load ..
@[go_sem ↓ high] theorem xs_GMsg (ρ : Operand → Value) (dst : Option Tmp) (x y : Operand) (ty : TypeId) (pos : String) (after : Array Edge) (guard : Option (Nat × Bool)) : execOp ρ { dst, op := .store 70 x y, type := ty, pos, after, guard } = (do gStore 70 (ρ x) (ρ y); pure .skip) := ex_store ..
@[go_sem ↓ high] theorem xb_GMsg (ρ : Operand → Value) (dst : Option Tmp) (x : Operand) (ty : TypeId) (pos : String) (after : Array Edge) (guard : Option (Nat × Bool)) : execOp ρ { dst, op := .box 70 x, type := ty, pos, after, guard } = (do pure (.value (← gBox 70 (ρ x)))) := ex_box ..
@[go_sem ↓ high] theorem xa_GMsg (ρ : Operand → Value) (dst : Option Tmp) (ty : TypeId) (pos : String) (after : Array Edge) (guard : Option (Nat × Bool)) : execOp ρ { dst, op := .alloc 70, type := ty, pos, after, guard } = (do pure (.value (← gAlloc 70))) := ex_alloc ..
theorem ag70 : aggT Tryz.prog 70 = true := by kernel_rfl
theorem sz70 : sizeT Tryz.prog 70 = 295 := by kernel_rfl
section
variable (w : World)
@[go_sem ↓ high] theorem ld_GMsg (a : Addr) : (gLoad 70 (.pointer (some a))).run Tryz.prog w = ofOpt ((get? GMsg w a).map GMsg.val) w (noLoad Tryz.prog 70 a w) := by
  unfold gLoad; exact run_loadAt_opt ag70 sz70 GMsg.val GMsg.val_eq
@[go_sem ↓ high] theorem st_GMsg (a : Addr) (x : GMsg) : (gStore 70 (.pointer (some a)) (GMsg.val x)).run Tryz.prog w = okU' ((get? GMsg w a).isSome && blkFree w a.block) (World.putCells w a (GMsg.enc x)) (noStore Tryz.prog 70 (.pointer (some a)) (GMsg.val x) w) := run_gStore_any sz70 GMsg.val GMsg.val_eq w a x
@[go_sem ↓ high] theorem bx_GMsg (x : GMsg) : (gBox 70 (GMsg.val x)).run Tryz.prog w = .ok (.pointer (some ⟨w.heap.size, 0, none⟩)) (w.alloc (.cells (GMsg.enc x).toArray 70)) := by
  rw [GMsg.val_eq]; exact run_gBox _ w
end
theorem lk70_0 (x : GMsg) : x.enc[0]? = some (.int .i64 x.kind) := by
  simp [GMsg.enc, List.getElem?_append]
theorem lk70_1 (x : GMsg) : x.enc[1]? = some (.int .i64 x.from_) := by
  simp [GMsg.enc, List.getElem?_append]
theorem lk70_2 (x : GMsg) : x.enc[2]? = some (.int .i64 x.to) := by
  simp [GMsg.enc, List.getElem?_append]
theorem ds70_3 (x : GMsg) : (x.enc.drop 3).take 37 = x.commit.enc := by
  unfold GMsg.enc
  simp [List.drop_append, List.drop_eq_nil_of_le] <;> (rw [List.take_append_of_le_length (by simp [GCommit.enc_len])]; exact List.take_of_length_le (by simp [GCommit.enc_len]))
theorem ds70_4 (x : GMsg) : (x.enc.drop 40).take 38 = x.stamp.enc := by
  unfold GMsg.enc
  simp [List.drop_append, List.drop_eq_nil_of_le, GCommit.enc_len] <;> (rw [List.take_append_of_le_length (by simp [GStamp.enc_len])]; exact List.take_of_length_le (by simp [GStamp.enc_len]))
theorem ds70_5 (x : GMsg) : (x.enc.drop 78).take 38 = x.cert.enc := by
  unfold GMsg.enc
  simp [List.drop_append, List.drop_eq_nil_of_le, GCommit.enc_len, GStamp.enc_len] <;> (rw [List.take_append_of_le_length (by simp [GCert.enc_len])]; exact List.take_of_length_le (by simp [GCert.enc_len]))
theorem lk70_7 (x : GMsg) : x.enc[154]? = some (.int .i64 x.epoch) := by
  simp [GMsg.enc, List.getElem?_append, GAck.enc_len, GCert.enc_len, GCommit.enc_len, GStamp.enc_len]
theorem lk70_8 (x : GMsg) : x.enc[155]? = some (.int .i64 x.round) := by
  simp [GMsg.enc, List.getElem?_append, GAck.enc_len, GCert.enc_len, GCommit.enc_len, GStamp.enc_len]
theorem lk70_9 (x : GMsg) : x.enc[156]? = some (.int .u64 x.time) := by
  simp [GMsg.enc, List.getElem?_append, GAck.enc_len, GCert.enc_len, GCommit.enc_len, GStamp.enc_len]
theorem ds70_10 (x : GMsg) : (x.enc.drop 157).take 6 = x.promise.enc := by
  unfold GMsg.enc
  simp [List.drop_append, List.drop_eq_nil_of_le, GAck.enc_len, GCert.enc_len, GCommit.enc_len, GStamp.enc_len] <;> (rw [List.take_append_of_le_length (by simp [GPromise.enc_len])]; exact List.take_of_length_le (by simp [GPromise.enc_len]))
theorem ds70_11 (x : GMsg) : (x.enc.drop 163).take 11 = x.proposal.enc := by
  unfold GMsg.enc
  simp [List.drop_append, List.drop_eq_nil_of_le, GAck.enc_len, GCert.enc_len, GCommit.enc_len, GPromise.enc_len, GStamp.enc_len] <;> (rw [List.take_append_of_le_length (by simp [GProposal.enc_len])]; exact List.take_of_length_le (by simp [GProposal.enc_len]))
theorem ds70_15 (x : GMsg) : (x.enc.drop 248).take 34 = x.opening.enc := by
  unfold GMsg.enc
  simp [List.drop_append, List.drop_eq_nil_of_le, GAck.enc_len, GCert.enc_len, GCommit.enc_len, GEntry.enc_len, GPromise.enc_len, GProposal.enc_len, GStamp.enc_len, GVote.enc_len] <;> (rw [List.take_append_of_le_length (by simp [GOpening.enc_len])]; exact List.take_of_length_le (by simp [GOpening.enc_len]))
theorem ds70_18 (x : GMsg) : (x.enc.drop 287).take 8 = x.decided.enc := by
  unfold GMsg.enc
  simp [List.drop_append, List.drop_eq_nil_of_le, GAck.enc_len, GCert.enc_len, GCommit.enc_len, GDeny.enc_len, GEntry.enc_len, GOpening.enc_len, GPromise.enc_len, GProposal.enc_len, GStamp.enc_len, GVote.enc_len] <;> (exact List.take_of_length_le (by simp [GDecided.enc_len]))
theorem zr70 : zeroT Tryz.prog 70 = some (.agg (GMsg.enc default).toArray) := by kernel_rfl
@[go_sem ↓ high] theorem al_GMsg (w : World) : (gAlloc 70).run Tryz.prog w = .ok (.pointer (some ⟨w.heap.size, 0, none⟩)) (w.alloc (.cells (GMsg.enc default).toArray 70)) := run_zero_alloc zr70 w
@[go_sem] theorem pc_GMsg (w : World) (n : Nat) (x z : GMsg) (hn : n = w.heap.size) : World.putCells (w.alloc (.cells (GMsg.enc z).toArray 70)) ⟨n, 0, none⟩ (GMsg.enc x) = w.alloc (.cells (GMsg.enc x).toArray 70) := putCells_top x z hn
theorem GMsg.at_kind {w : World} {a : Addr} {x : GMsg} (h : get? GMsg w a = some x) : w.cell? (a.add 0) = some (.int .i64 x.kind) := (get?_iff.1 h) _ _ (lk70_0 x)
theorem GMsg.at_from_ {w : World} {a : Addr} {x : GMsg} (h : get? GMsg w a = some x) : w.cell? (a.add 1) = some (.int .i64 x.from_) := (get?_iff.1 h) _ _ (lk70_1 x)
theorem GMsg.at_to {w : World} {a : Addr} {x : GMsg} (h : get? GMsg w a = some x) : w.cell? (a.add 2) = some (.int .i64 x.to) := (get?_iff.1 h) _ _ (lk70_2 x)
theorem GMsg.at_commit {w : World} {a : Addr} {x : GMsg} (h : get? GMsg w a = some x) : get? GCommit w (a.add 3) = some x.commit := by
  rw [get?_iff] at h ⊢
  refine h.sub 3 fun j v hv => ?_
  have hd := ds70_3 x
  have hj : j < 37 := by have := (List.getElem?_eq_some_iff.1 hv).1; rwa [Enc.len] at this
  show x.enc[3 + j]? = some v
  rw [← List.getElem?_drop, ← List.getElem?_take_of_lt hj, hd]; exact hv
theorem GMsg.at_stamp {w : World} {a : Addr} {x : GMsg} (h : get? GMsg w a = some x) : get? GStamp w (a.add 40) = some x.stamp := by
  rw [get?_iff] at h ⊢
  refine h.sub 40 fun j v hv => ?_
  have hd := ds70_4 x
  have hj : j < 38 := by have := (List.getElem?_eq_some_iff.1 hv).1; rwa [Enc.len] at this
  show x.enc[40 + j]? = some v
  rw [← List.getElem?_drop, ← List.getElem?_take_of_lt hj, hd]; exact hv
theorem GMsg.at_cert {w : World} {a : Addr} {x : GMsg} (h : get? GMsg w a = some x) : get? GCert w (a.add 78) = some x.cert := by
  rw [get?_iff] at h ⊢
  refine h.sub 78 fun j v hv => ?_
  have hd := ds70_5 x
  have hj : j < 38 := by have := (List.getElem?_eq_some_iff.1 hv).1; rwa [Enc.len] at this
  show x.enc[78 + j]? = some v
  rw [← List.getElem?_drop, ← List.getElem?_take_of_lt hj, hd]; exact hv
theorem GMsg.at_epoch {w : World} {a : Addr} {x : GMsg} (h : get? GMsg w a = some x) : w.cell? (a.add 154) = some (.int .i64 x.epoch) := (get?_iff.1 h) _ _ (lk70_7 x)
theorem GMsg.at_round {w : World} {a : Addr} {x : GMsg} (h : get? GMsg w a = some x) : w.cell? (a.add 155) = some (.int .i64 x.round) := (get?_iff.1 h) _ _ (lk70_8 x)
theorem GMsg.at_time {w : World} {a : Addr} {x : GMsg} (h : get? GMsg w a = some x) : w.cell? (a.add 156) = some (.int .u64 x.time) := (get?_iff.1 h) _ _ (lk70_9 x)
theorem GMsg.at_promise {w : World} {a : Addr} {x : GMsg} (h : get? GMsg w a = some x) : get? GPromise w (a.add 157) = some x.promise := by
  rw [get?_iff] at h ⊢
  refine h.sub 157 fun j v hv => ?_
  have hd := ds70_10 x
  have hj : j < 6 := by have := (List.getElem?_eq_some_iff.1 hv).1; rwa [Enc.len] at this
  show x.enc[157 + j]? = some v
  rw [← List.getElem?_drop, ← List.getElem?_take_of_lt hj, hd]; exact hv
theorem GMsg.at_proposal {w : World} {a : Addr} {x : GMsg} (h : get? GMsg w a = some x) : get? GProposal w (a.add 163) = some x.proposal := by
  rw [get?_iff] at h ⊢
  refine h.sub 163 fun j v hv => ?_
  have hd := ds70_11 x
  have hj : j < 11 := by have := (List.getElem?_eq_some_iff.1 hv).1; rwa [Enc.len] at this
  show x.enc[163 + j]? = some v
  rw [← List.getElem?_drop, ← List.getElem?_take_of_lt hj, hd]; exact hv
theorem GMsg.at_opening {w : World} {a : Addr} {x : GMsg} (h : get? GMsg w a = some x) : get? GOpening w (a.add 248) = some x.opening := by
  rw [get?_iff] at h ⊢
  refine h.sub 248 fun j v hv => ?_
  have hd := ds70_15 x
  have hj : j < 34 := by have := (List.getElem?_eq_some_iff.1 hv).1; rwa [Enc.len] at this
  show x.enc[248 + j]? = some v
  rw [← List.getElem?_drop, ← List.getElem?_take_of_lt hj, hd]; exact hv
theorem GMsg.at_decided {w : World} {a : Addr} {x : GMsg} (h : get? GMsg w a = some x) : get? GDecided w (a.add 287) = some x.decided := by
  rw [get?_iff] at h ⊢
  refine h.sub 287 fun j v hv => ?_
  have hd := ds70_18 x
  have hj : j < 8 := by have := (List.getElem?_eq_some_iff.1 hv).1; rwa [Enc.len] at this
  show x.enc[287 + j]? = some v
  rw [← List.getElem?_drop, ← List.getElem?_take_of_lt hj, hd]; exact hv
@[go_sem] theorem nl70_1 (x : GMsg) : x.enc[1]? = some (.int .i64 x.from_) := by
  have h := (GMsg.at_from_ (get?_new (w := (default : World)) 70 x))
  simp only [Addr.add_lit, Nat.zero_add, Nat.reduceAdd, World.cell?_alloc_new, List.getElem?_toArray] at h
  exact h
@[go_sem] theorem nl70_2 (x : GMsg) : x.enc[2]? = some (.int .i64 x.to) := by
  have h := (GMsg.at_to (get?_new (w := (default : World)) 70 x))
  simp only [Addr.add_lit, Nat.zero_add, Nat.reduceAdd, World.cell?_alloc_new, List.getElem?_toArray] at h
  exact h
@[go_sem] theorem nw70 (w : World) (n : Nat) (x : GMsg) (hn : n = w.heap.size) : get? GMsg (w.alloc (.cells (GMsg.enc x).toArray 70)) ⟨n, 0, none⟩ = some x := by
  subst hn; exact get?_new 70 x
theorem pl70 : ((Tryz.prog.fieldsOf 70).toList.mapM fun f => (Tryz.prog.info? f.type).map fun i => (f.offset, i.size)) = some [(0, 1), (1, 1), (2, 1), (3, 37), (40, 38), (78, 38), (116, 38), (154, 1), (155, 1), (156, 1), (157, 6), (163, 11), (174, 38), (212, 1), (213, 35), (248, 34), (282, 4), (286, 1), (287, 8)] := by kernel_rfl
theorem fs70_0 (x : GMsg) (v : Int) (rest : List (Nat × Value)) : Instr.fill (fun i => ([(0, 1), (1, 1), (2, 1), (3, 37), (40, 38), (78, 38), (116, 38), (154, 1), (155, 1), (156, 1), (157, 6), (163, 11), (174, 38), (212, 1), (213, 35), (248, 34), (282, 4), (286, 1), (287, 8)] : List (Nat × Nat))[i]?) x.enc.toArray ((0, (.int .i64 v)) :: rest) = Instr.fill (fun i => ([(0, 1), (1, 1), (2, 1), (3, 37), (40, 38), (78, 38), (116, 38), (154, 1), (155, 1), (156, 1), (157, 6), (163, 11), (174, 38), (212, 1), (213, 35), (248, 34), (282, 4), (286, 1), (287, 8)] : List (Nat × Nat))[i]?) ({ x with kind := v } : GMsg).enc.toArray rest := by
  have h := fill_seg [(0, 1), (1, 1), (2, 1), (3, 37), (40, 38), (78, 38), (116, 38), (154, 1), (155, 1), (156, 1), (157, 6), (163, 11), (174, 38), (212, 1), (213, 35), (248, 34), (282, 4), (286, 1), (287, 8)] 0 0 1 rfl (([] : List Value)) ([(.int .i64 x.kind)]) ([(.int .i64 x.from_)] ++ ([(.int .i64 x.to)] ++ (x.commit.enc ++ (x.stamp.enc ++ (x.cert.enc ++ (x.ack.enc ++ ([(.int .i64 x.epoch)] ++ ([(.int .i64 x.round)] ++ ([(.int .u64 x.time)] ++ (x.promise.enc ++ (x.proposal.enc ++ (x.vote.enc ++ ([(.int .i64 x.index)] ++ (x.entry.enc ++ (x.opening.enc ++ (x.deny.enc ++ ([(.string x.reply)] ++ (x.decided.enc ++ (([] : List Value)))))))))))))))))))) ([(.int .i64 v)]) (.int .i64 v) rest (rfl) (by simp [GAck.enc_len, GCert.enc_len, GCommit.enc_len, GDecided.enc_len, GDeny.enc_len, GEntry.enc_len, GOpening.enc_len, GPromise.enc_len, GProposal.enc_len, GStamp.enc_len, GVote.enc_len]) (by simp [GAck.enc_len, GCert.enc_len, GCommit.enc_len, GDecided.enc_len, GDeny.enc_len, GEntry.enc_len, GOpening.enc_len, GPromise.enc_len, GProposal.enc_len, GStamp.enc_len, GVote.enc_len]) (by simp [GAck.enc_len, GCert.enc_len, GCommit.enc_len, GDecided.enc_len, GDeny.enc_len, GEntry.enc_len, GOpening.enc_len, GPromise.enc_len, GProposal.enc_len, GStamp.enc_len, GVote.enc_len])
  have e1 : x.enc = (([] : List Value)) ++ ([(.int .i64 x.kind)] ++ ([(.int .i64 x.from_)] ++ ([(.int .i64 x.to)] ++ (x.commit.enc ++ (x.stamp.enc ++ (x.cert.enc ++ (x.ack.enc ++ ([(.int .i64 x.epoch)] ++ ([(.int .i64 x.round)] ++ ([(.int .u64 x.time)] ++ (x.promise.enc ++ (x.proposal.enc ++ (x.vote.enc ++ ([(.int .i64 x.index)] ++ (x.entry.enc ++ (x.opening.enc ++ (x.deny.enc ++ ([(.string x.reply)] ++ (x.decided.enc ++ (([] : List Value))))))))))))))))))))) := by simp only [GMsg.enc, List.nil_append, List.append_assoc, List.append_nil]
  have e2 : ({ x with kind := v } : GMsg).enc = (([] : List Value)) ++ ([(.int .i64 v)] ++ ([(.int .i64 x.from_)] ++ ([(.int .i64 x.to)] ++ (x.commit.enc ++ (x.stamp.enc ++ (x.cert.enc ++ (x.ack.enc ++ ([(.int .i64 x.epoch)] ++ ([(.int .i64 x.round)] ++ ([(.int .u64 x.time)] ++ (x.promise.enc ++ (x.proposal.enc ++ (x.vote.enc ++ ([(.int .i64 x.index)] ++ (x.entry.enc ++ (x.opening.enc ++ (x.deny.enc ++ ([(.string x.reply)] ++ (x.decided.enc ++ (([] : List Value))))))))))))))))))))) := by simp only [GMsg.enc, List.nil_append, List.append_assoc, List.append_nil]
  rw [e1, e2]; exact h
theorem fs70_1 (x : GMsg) (v : Int) (rest : List (Nat × Value)) : Instr.fill (fun i => ([(0, 1), (1, 1), (2, 1), (3, 37), (40, 38), (78, 38), (116, 38), (154, 1), (155, 1), (156, 1), (157, 6), (163, 11), (174, 38), (212, 1), (213, 35), (248, 34), (282, 4), (286, 1), (287, 8)] : List (Nat × Nat))[i]?) x.enc.toArray ((1, (.int .i64 v)) :: rest) = Instr.fill (fun i => ([(0, 1), (1, 1), (2, 1), (3, 37), (40, 38), (78, 38), (116, 38), (154, 1), (155, 1), (156, 1), (157, 6), (163, 11), (174, 38), (212, 1), (213, 35), (248, 34), (282, 4), (286, 1), (287, 8)] : List (Nat × Nat))[i]?) ({ x with from_ := v } : GMsg).enc.toArray rest := by
  have h := fill_seg [(0, 1), (1, 1), (2, 1), (3, 37), (40, 38), (78, 38), (116, 38), (154, 1), (155, 1), (156, 1), (157, 6), (163, 11), (174, 38), (212, 1), (213, 35), (248, 34), (282, 4), (286, 1), (287, 8)] 1 1 1 rfl (([] : List Value) ++ ([(.int .i64 x.kind)])) ([(.int .i64 x.from_)]) ([(.int .i64 x.to)] ++ (x.commit.enc ++ (x.stamp.enc ++ (x.cert.enc ++ (x.ack.enc ++ ([(.int .i64 x.epoch)] ++ ([(.int .i64 x.round)] ++ ([(.int .u64 x.time)] ++ (x.promise.enc ++ (x.proposal.enc ++ (x.vote.enc ++ ([(.int .i64 x.index)] ++ (x.entry.enc ++ (x.opening.enc ++ (x.deny.enc ++ ([(.string x.reply)] ++ (x.decided.enc ++ (([] : List Value))))))))))))))))))) ([(.int .i64 v)]) (.int .i64 v) rest (rfl) (by simp [GAck.enc_len, GCert.enc_len, GCommit.enc_len, GDecided.enc_len, GDeny.enc_len, GEntry.enc_len, GOpening.enc_len, GPromise.enc_len, GProposal.enc_len, GStamp.enc_len, GVote.enc_len]) (by simp [GAck.enc_len, GCert.enc_len, GCommit.enc_len, GDecided.enc_len, GDeny.enc_len, GEntry.enc_len, GOpening.enc_len, GPromise.enc_len, GProposal.enc_len, GStamp.enc_len, GVote.enc_len]) (by simp [GAck.enc_len, GCert.enc_len, GCommit.enc_len, GDecided.enc_len, GDeny.enc_len, GEntry.enc_len, GOpening.enc_len, GPromise.enc_len, GProposal.enc_len, GStamp.enc_len, GVote.enc_len])
  have e1 : x.enc = (([] : List Value) ++ ([(.int .i64 x.kind)])) ++ ([(.int .i64 x.from_)] ++ ([(.int .i64 x.to)] ++ (x.commit.enc ++ (x.stamp.enc ++ (x.cert.enc ++ (x.ack.enc ++ ([(.int .i64 x.epoch)] ++ ([(.int .i64 x.round)] ++ ([(.int .u64 x.time)] ++ (x.promise.enc ++ (x.proposal.enc ++ (x.vote.enc ++ ([(.int .i64 x.index)] ++ (x.entry.enc ++ (x.opening.enc ++ (x.deny.enc ++ ([(.string x.reply)] ++ (x.decided.enc ++ (([] : List Value)))))))))))))))))))) := by simp only [GMsg.enc, List.nil_append, List.append_assoc, List.append_nil]
  have e2 : ({ x with from_ := v } : GMsg).enc = (([] : List Value) ++ ([(.int .i64 x.kind)])) ++ ([(.int .i64 v)] ++ ([(.int .i64 x.to)] ++ (x.commit.enc ++ (x.stamp.enc ++ (x.cert.enc ++ (x.ack.enc ++ ([(.int .i64 x.epoch)] ++ ([(.int .i64 x.round)] ++ ([(.int .u64 x.time)] ++ (x.promise.enc ++ (x.proposal.enc ++ (x.vote.enc ++ ([(.int .i64 x.index)] ++ (x.entry.enc ++ (x.opening.enc ++ (x.deny.enc ++ ([(.string x.reply)] ++ (x.decided.enc ++ (([] : List Value)))))))))))))))))))) := by simp only [GMsg.enc, List.nil_append, List.append_assoc, List.append_nil]
  rw [e1, e2]; exact h
theorem fs70_2 (x : GMsg) (v : Int) (rest : List (Nat × Value)) : Instr.fill (fun i => ([(0, 1), (1, 1), (2, 1), (3, 37), (40, 38), (78, 38), (116, 38), (154, 1), (155, 1), (156, 1), (157, 6), (163, 11), (174, 38), (212, 1), (213, 35), (248, 34), (282, 4), (286, 1), (287, 8)] : List (Nat × Nat))[i]?) x.enc.toArray ((2, (.int .i64 v)) :: rest) = Instr.fill (fun i => ([(0, 1), (1, 1), (2, 1), (3, 37), (40, 38), (78, 38), (116, 38), (154, 1), (155, 1), (156, 1), (157, 6), (163, 11), (174, 38), (212, 1), (213, 35), (248, 34), (282, 4), (286, 1), (287, 8)] : List (Nat × Nat))[i]?) ({ x with to := v } : GMsg).enc.toArray rest := by
  have h := fill_seg [(0, 1), (1, 1), (2, 1), (3, 37), (40, 38), (78, 38), (116, 38), (154, 1), (155, 1), (156, 1), (157, 6), (163, 11), (174, 38), (212, 1), (213, 35), (248, 34), (282, 4), (286, 1), (287, 8)] 2 2 1 rfl (([] : List Value) ++ ([(.int .i64 x.kind)] ++ ([(.int .i64 x.from_)]))) ([(.int .i64 x.to)]) (x.commit.enc ++ (x.stamp.enc ++ (x.cert.enc ++ (x.ack.enc ++ ([(.int .i64 x.epoch)] ++ ([(.int .i64 x.round)] ++ ([(.int .u64 x.time)] ++ (x.promise.enc ++ (x.proposal.enc ++ (x.vote.enc ++ ([(.int .i64 x.index)] ++ (x.entry.enc ++ (x.opening.enc ++ (x.deny.enc ++ ([(.string x.reply)] ++ (x.decided.enc ++ (([] : List Value)))))))))))))))))) ([(.int .i64 v)]) (.int .i64 v) rest (rfl) (by simp [GAck.enc_len, GCert.enc_len, GCommit.enc_len, GDecided.enc_len, GDeny.enc_len, GEntry.enc_len, GOpening.enc_len, GPromise.enc_len, GProposal.enc_len, GStamp.enc_len, GVote.enc_len]) (by simp [GAck.enc_len, GCert.enc_len, GCommit.enc_len, GDecided.enc_len, GDeny.enc_len, GEntry.enc_len, GOpening.enc_len, GPromise.enc_len, GProposal.enc_len, GStamp.enc_len, GVote.enc_len]) (by simp [GAck.enc_len, GCert.enc_len, GCommit.enc_len, GDecided.enc_len, GDeny.enc_len, GEntry.enc_len, GOpening.enc_len, GPromise.enc_len, GProposal.enc_len, GStamp.enc_len, GVote.enc_len])
  have e1 : x.enc = (([] : List Value) ++ ([(.int .i64 x.kind)] ++ ([(.int .i64 x.from_)]))) ++ ([(.int .i64 x.to)] ++ (x.commit.enc ++ (x.stamp.enc ++ (x.cert.enc ++ (x.ack.enc ++ ([(.int .i64 x.epoch)] ++ ([(.int .i64 x.round)] ++ ([(.int .u64 x.time)] ++ (x.promise.enc ++ (x.proposal.enc ++ (x.vote.enc ++ ([(.int .i64 x.index)] ++ (x.entry.enc ++ (x.opening.enc ++ (x.deny.enc ++ ([(.string x.reply)] ++ (x.decided.enc ++ (([] : List Value))))))))))))))))))) := by simp only [GMsg.enc, List.nil_append, List.append_assoc, List.append_nil]
  have e2 : ({ x with to := v } : GMsg).enc = (([] : List Value) ++ ([(.int .i64 x.kind)] ++ ([(.int .i64 x.from_)]))) ++ ([(.int .i64 v)] ++ (x.commit.enc ++ (x.stamp.enc ++ (x.cert.enc ++ (x.ack.enc ++ ([(.int .i64 x.epoch)] ++ ([(.int .i64 x.round)] ++ ([(.int .u64 x.time)] ++ (x.promise.enc ++ (x.proposal.enc ++ (x.vote.enc ++ ([(.int .i64 x.index)] ++ (x.entry.enc ++ (x.opening.enc ++ (x.deny.enc ++ ([(.string x.reply)] ++ (x.decided.enc ++ (([] : List Value))))))))))))))))))) := by simp only [GMsg.enc, List.nil_append, List.append_assoc, List.append_nil]
  rw [e1, e2]; exact h
theorem fs70_3 (x : GMsg) (v : GCommit) (rest : List (Nat × Value)) : Instr.fill (fun i => ([(0, 1), (1, 1), (2, 1), (3, 37), (40, 38), (78, 38), (116, 38), (154, 1), (155, 1), (156, 1), (157, 6), (163, 11), (174, 38), (212, 1), (213, 35), (248, 34), (282, 4), (286, 1), (287, 8)] : List (Nat × Nat))[i]?) x.enc.toArray ((3, (v.val)) :: rest) = Instr.fill (fun i => ([(0, 1), (1, 1), (2, 1), (3, 37), (40, 38), (78, 38), (116, 38), (154, 1), (155, 1), (156, 1), (157, 6), (163, 11), (174, 38), (212, 1), (213, 35), (248, 34), (282, 4), (286, 1), (287, 8)] : List (Nat × Nat))[i]?) ({ x with commit := v } : GMsg).enc.toArray rest := by
  have h := fill_seg [(0, 1), (1, 1), (2, 1), (3, 37), (40, 38), (78, 38), (116, 38), (154, 1), (155, 1), (156, 1), (157, 6), (163, 11), (174, 38), (212, 1), (213, 35), (248, 34), (282, 4), (286, 1), (287, 8)] 3 3 37 rfl (([] : List Value) ++ ([(.int .i64 x.kind)] ++ ([(.int .i64 x.from_)] ++ ([(.int .i64 x.to)])))) (x.commit.enc) (x.stamp.enc ++ (x.cert.enc ++ (x.ack.enc ++ ([(.int .i64 x.epoch)] ++ ([(.int .i64 x.round)] ++ ([(.int .u64 x.time)] ++ (x.promise.enc ++ (x.proposal.enc ++ (x.vote.enc ++ ([(.int .i64 x.index)] ++ (x.entry.enc ++ (x.opening.enc ++ (x.deny.enc ++ ([(.string x.reply)] ++ (x.decided.enc ++ (([] : List Value))))))))))))))))) (v.enc) (v.val) rest (by rw [GCommit.val_eq]; rfl) (by simp [GAck.enc_len, GCert.enc_len, GCommit.enc_len, GDecided.enc_len, GDeny.enc_len, GEntry.enc_len, GOpening.enc_len, GPromise.enc_len, GProposal.enc_len, GStamp.enc_len, GVote.enc_len]) (by simp [GAck.enc_len, GCert.enc_len, GCommit.enc_len, GDecided.enc_len, GDeny.enc_len, GEntry.enc_len, GOpening.enc_len, GPromise.enc_len, GProposal.enc_len, GStamp.enc_len, GVote.enc_len]) (by simp [GAck.enc_len, GCert.enc_len, GCommit.enc_len, GDecided.enc_len, GDeny.enc_len, GEntry.enc_len, GOpening.enc_len, GPromise.enc_len, GProposal.enc_len, GStamp.enc_len, GVote.enc_len])
  have e1 : x.enc = (([] : List Value) ++ ([(.int .i64 x.kind)] ++ ([(.int .i64 x.from_)] ++ ([(.int .i64 x.to)])))) ++ (x.commit.enc ++ (x.stamp.enc ++ (x.cert.enc ++ (x.ack.enc ++ ([(.int .i64 x.epoch)] ++ ([(.int .i64 x.round)] ++ ([(.int .u64 x.time)] ++ (x.promise.enc ++ (x.proposal.enc ++ (x.vote.enc ++ ([(.int .i64 x.index)] ++ (x.entry.enc ++ (x.opening.enc ++ (x.deny.enc ++ ([(.string x.reply)] ++ (x.decided.enc ++ (([] : List Value)))))))))))))))))) := by simp only [GMsg.enc, List.nil_append, List.append_assoc, List.append_nil]
  have e2 : ({ x with commit := v } : GMsg).enc = (([] : List Value) ++ ([(.int .i64 x.kind)] ++ ([(.int .i64 x.from_)] ++ ([(.int .i64 x.to)])))) ++ (v.enc ++ (x.stamp.enc ++ (x.cert.enc ++ (x.ack.enc ++ ([(.int .i64 x.epoch)] ++ ([(.int .i64 x.round)] ++ ([(.int .u64 x.time)] ++ (x.promise.enc ++ (x.proposal.enc ++ (x.vote.enc ++ ([(.int .i64 x.index)] ++ (x.entry.enc ++ (x.opening.enc ++ (x.deny.enc ++ ([(.string x.reply)] ++ (x.decided.enc ++ (([] : List Value)))))))))))))))))) := by simp only [GMsg.enc, List.nil_append, List.append_assoc, List.append_nil]
  rw [e1, e2]; exact h
theorem fs70_4 (x : GMsg) (v : GStamp) (rest : List (Nat × Value)) : Instr.fill (fun i => ([(0, 1), (1, 1), (2, 1), (3, 37), (40, 38), (78, 38), (116, 38), (154, 1), (155, 1), (156, 1), (157, 6), (163, 11), (174, 38), (212, 1), (213, 35), (248, 34), (282, 4), (286, 1), (287, 8)] : List (Nat × Nat))[i]?) x.enc.toArray ((4, (v.val)) :: rest) = Instr.fill (fun i => ([(0, 1), (1, 1), (2, 1), (3, 37), (40, 38), (78, 38), (116, 38), (154, 1), (155, 1), (156, 1), (157, 6), (163, 11), (174, 38), (212, 1), (213, 35), (248, 34), (282, 4), (286, 1), (287, 8)] : List (Nat × Nat))[i]?) ({ x with stamp := v } : GMsg).enc.toArray rest := by
  have h := fill_seg [(0, 1), (1, 1), (2, 1), (3, 37), (40, 38), (78, 38), (116, 38), (154, 1), (155, 1), (156, 1), (157, 6), (163, 11), (174, 38), (212, 1), (213, 35), (248, 34), (282, 4), (286, 1), (287, 8)] 4 40 38 rfl (([] : List Value) ++ ([(.int .i64 x.kind)] ++ ([(.int .i64 x.from_)] ++ ([(.int .i64 x.to)] ++ (x.commit.enc))))) (x.stamp.enc) (x.cert.enc ++ (x.ack.enc ++ ([(.int .i64 x.epoch)] ++ ([(.int .i64 x.round)] ++ ([(.int .u64 x.time)] ++ (x.promise.enc ++ (x.proposal.enc ++ (x.vote.enc ++ ([(.int .i64 x.index)] ++ (x.entry.enc ++ (x.opening.enc ++ (x.deny.enc ++ ([(.string x.reply)] ++ (x.decided.enc ++ (([] : List Value)))))))))))))))) (v.enc) (v.val) rest (by rw [GStamp.val_eq]; rfl) (by simp [GAck.enc_len, GCert.enc_len, GCommit.enc_len, GDecided.enc_len, GDeny.enc_len, GEntry.enc_len, GOpening.enc_len, GPromise.enc_len, GProposal.enc_len, GStamp.enc_len, GVote.enc_len]) (by simp [GAck.enc_len, GCert.enc_len, GCommit.enc_len, GDecided.enc_len, GDeny.enc_len, GEntry.enc_len, GOpening.enc_len, GPromise.enc_len, GProposal.enc_len, GStamp.enc_len, GVote.enc_len]) (by simp [GAck.enc_len, GCert.enc_len, GCommit.enc_len, GDecided.enc_len, GDeny.enc_len, GEntry.enc_len, GOpening.enc_len, GPromise.enc_len, GProposal.enc_len, GStamp.enc_len, GVote.enc_len])
  have e1 : x.enc = (([] : List Value) ++ ([(.int .i64 x.kind)] ++ ([(.int .i64 x.from_)] ++ ([(.int .i64 x.to)] ++ (x.commit.enc))))) ++ (x.stamp.enc ++ (x.cert.enc ++ (x.ack.enc ++ ([(.int .i64 x.epoch)] ++ ([(.int .i64 x.round)] ++ ([(.int .u64 x.time)] ++ (x.promise.enc ++ (x.proposal.enc ++ (x.vote.enc ++ ([(.int .i64 x.index)] ++ (x.entry.enc ++ (x.opening.enc ++ (x.deny.enc ++ ([(.string x.reply)] ++ (x.decided.enc ++ (([] : List Value))))))))))))))))) := by simp only [GMsg.enc, List.nil_append, List.append_assoc, List.append_nil]
  have e2 : ({ x with stamp := v } : GMsg).enc = (([] : List Value) ++ ([(.int .i64 x.kind)] ++ ([(.int .i64 x.from_)] ++ ([(.int .i64 x.to)] ++ (x.commit.enc))))) ++ (v.enc ++ (x.cert.enc ++ (x.ack.enc ++ ([(.int .i64 x.epoch)] ++ ([(.int .i64 x.round)] ++ ([(.int .u64 x.time)] ++ (x.promise.enc ++ (x.proposal.enc ++ (x.vote.enc ++ ([(.int .i64 x.index)] ++ (x.entry.enc ++ (x.opening.enc ++ (x.deny.enc ++ ([(.string x.reply)] ++ (x.decided.enc ++ (([] : List Value))))))))))))))))) := by simp only [GMsg.enc, List.nil_append, List.append_assoc, List.append_nil]
  rw [e1, e2]; exact h
theorem fs70_7 (x : GMsg) (v : Int) (rest : List (Nat × Value)) : Instr.fill (fun i => ([(0, 1), (1, 1), (2, 1), (3, 37), (40, 38), (78, 38), (116, 38), (154, 1), (155, 1), (156, 1), (157, 6), (163, 11), (174, 38), (212, 1), (213, 35), (248, 34), (282, 4), (286, 1), (287, 8)] : List (Nat × Nat))[i]?) x.enc.toArray ((7, (.int .i64 v)) :: rest) = Instr.fill (fun i => ([(0, 1), (1, 1), (2, 1), (3, 37), (40, 38), (78, 38), (116, 38), (154, 1), (155, 1), (156, 1), (157, 6), (163, 11), (174, 38), (212, 1), (213, 35), (248, 34), (282, 4), (286, 1), (287, 8)] : List (Nat × Nat))[i]?) ({ x with epoch := v } : GMsg).enc.toArray rest := by
  have h := fill_seg [(0, 1), (1, 1), (2, 1), (3, 37), (40, 38), (78, 38), (116, 38), (154, 1), (155, 1), (156, 1), (157, 6), (163, 11), (174, 38), (212, 1), (213, 35), (248, 34), (282, 4), (286, 1), (287, 8)] 7 154 1 rfl (([] : List Value) ++ ([(.int .i64 x.kind)] ++ ([(.int .i64 x.from_)] ++ ([(.int .i64 x.to)] ++ (x.commit.enc ++ (x.stamp.enc ++ (x.cert.enc ++ (x.ack.enc)))))))) ([(.int .i64 x.epoch)]) ([(.int .i64 x.round)] ++ ([(.int .u64 x.time)] ++ (x.promise.enc ++ (x.proposal.enc ++ (x.vote.enc ++ ([(.int .i64 x.index)] ++ (x.entry.enc ++ (x.opening.enc ++ (x.deny.enc ++ ([(.string x.reply)] ++ (x.decided.enc ++ (([] : List Value))))))))))))) ([(.int .i64 v)]) (.int .i64 v) rest (rfl) (by simp [GAck.enc_len, GCert.enc_len, GCommit.enc_len, GDecided.enc_len, GDeny.enc_len, GEntry.enc_len, GOpening.enc_len, GPromise.enc_len, GProposal.enc_len, GStamp.enc_len, GVote.enc_len]) (by simp [GAck.enc_len, GCert.enc_len, GCommit.enc_len, GDecided.enc_len, GDeny.enc_len, GEntry.enc_len, GOpening.enc_len, GPromise.enc_len, GProposal.enc_len, GStamp.enc_len, GVote.enc_len]) (by simp [GAck.enc_len, GCert.enc_len, GCommit.enc_len, GDecided.enc_len, GDeny.enc_len, GEntry.enc_len, GOpening.enc_len, GPromise.enc_len, GProposal.enc_len, GStamp.enc_len, GVote.enc_len])
  have e1 : x.enc = (([] : List Value) ++ ([(.int .i64 x.kind)] ++ ([(.int .i64 x.from_)] ++ ([(.int .i64 x.to)] ++ (x.commit.enc ++ (x.stamp.enc ++ (x.cert.enc ++ (x.ack.enc)))))))) ++ ([(.int .i64 x.epoch)] ++ ([(.int .i64 x.round)] ++ ([(.int .u64 x.time)] ++ (x.promise.enc ++ (x.proposal.enc ++ (x.vote.enc ++ ([(.int .i64 x.index)] ++ (x.entry.enc ++ (x.opening.enc ++ (x.deny.enc ++ ([(.string x.reply)] ++ (x.decided.enc ++ (([] : List Value)))))))))))))) := by simp only [GMsg.enc, List.nil_append, List.append_assoc, List.append_nil]
  have e2 : ({ x with epoch := v } : GMsg).enc = (([] : List Value) ++ ([(.int .i64 x.kind)] ++ ([(.int .i64 x.from_)] ++ ([(.int .i64 x.to)] ++ (x.commit.enc ++ (x.stamp.enc ++ (x.cert.enc ++ (x.ack.enc)))))))) ++ ([(.int .i64 v)] ++ ([(.int .i64 x.round)] ++ ([(.int .u64 x.time)] ++ (x.promise.enc ++ (x.proposal.enc ++ (x.vote.enc ++ ([(.int .i64 x.index)] ++ (x.entry.enc ++ (x.opening.enc ++ (x.deny.enc ++ ([(.string x.reply)] ++ (x.decided.enc ++ (([] : List Value)))))))))))))) := by simp only [GMsg.enc, List.nil_append, List.append_assoc, List.append_nil]
  rw [e1, e2]; exact h
theorem fs70_8 (x : GMsg) (v : Int) (rest : List (Nat × Value)) : Instr.fill (fun i => ([(0, 1), (1, 1), (2, 1), (3, 37), (40, 38), (78, 38), (116, 38), (154, 1), (155, 1), (156, 1), (157, 6), (163, 11), (174, 38), (212, 1), (213, 35), (248, 34), (282, 4), (286, 1), (287, 8)] : List (Nat × Nat))[i]?) x.enc.toArray ((8, (.int .i64 v)) :: rest) = Instr.fill (fun i => ([(0, 1), (1, 1), (2, 1), (3, 37), (40, 38), (78, 38), (116, 38), (154, 1), (155, 1), (156, 1), (157, 6), (163, 11), (174, 38), (212, 1), (213, 35), (248, 34), (282, 4), (286, 1), (287, 8)] : List (Nat × Nat))[i]?) ({ x with round := v } : GMsg).enc.toArray rest := by
  have h := fill_seg [(0, 1), (1, 1), (2, 1), (3, 37), (40, 38), (78, 38), (116, 38), (154, 1), (155, 1), (156, 1), (157, 6), (163, 11), (174, 38), (212, 1), (213, 35), (248, 34), (282, 4), (286, 1), (287, 8)] 8 155 1 rfl (([] : List Value) ++ ([(.int .i64 x.kind)] ++ ([(.int .i64 x.from_)] ++ ([(.int .i64 x.to)] ++ (x.commit.enc ++ (x.stamp.enc ++ (x.cert.enc ++ (x.ack.enc ++ ([(.int .i64 x.epoch)]))))))))) ([(.int .i64 x.round)]) ([(.int .u64 x.time)] ++ (x.promise.enc ++ (x.proposal.enc ++ (x.vote.enc ++ ([(.int .i64 x.index)] ++ (x.entry.enc ++ (x.opening.enc ++ (x.deny.enc ++ ([(.string x.reply)] ++ (x.decided.enc ++ (([] : List Value)))))))))))) ([(.int .i64 v)]) (.int .i64 v) rest (rfl) (by simp [GAck.enc_len, GCert.enc_len, GCommit.enc_len, GDecided.enc_len, GDeny.enc_len, GEntry.enc_len, GOpening.enc_len, GPromise.enc_len, GProposal.enc_len, GStamp.enc_len, GVote.enc_len]) (by simp [GAck.enc_len, GCert.enc_len, GCommit.enc_len, GDecided.enc_len, GDeny.enc_len, GEntry.enc_len, GOpening.enc_len, GPromise.enc_len, GProposal.enc_len, GStamp.enc_len, GVote.enc_len]) (by simp [GAck.enc_len, GCert.enc_len, GCommit.enc_len, GDecided.enc_len, GDeny.enc_len, GEntry.enc_len, GOpening.enc_len, GPromise.enc_len, GProposal.enc_len, GStamp.enc_len, GVote.enc_len])
  have e1 : x.enc = (([] : List Value) ++ ([(.int .i64 x.kind)] ++ ([(.int .i64 x.from_)] ++ ([(.int .i64 x.to)] ++ (x.commit.enc ++ (x.stamp.enc ++ (x.cert.enc ++ (x.ack.enc ++ ([(.int .i64 x.epoch)]))))))))) ++ ([(.int .i64 x.round)] ++ ([(.int .u64 x.time)] ++ (x.promise.enc ++ (x.proposal.enc ++ (x.vote.enc ++ ([(.int .i64 x.index)] ++ (x.entry.enc ++ (x.opening.enc ++ (x.deny.enc ++ ([(.string x.reply)] ++ (x.decided.enc ++ (([] : List Value))))))))))))) := by simp only [GMsg.enc, List.nil_append, List.append_assoc, List.append_nil]
  have e2 : ({ x with round := v } : GMsg).enc = (([] : List Value) ++ ([(.int .i64 x.kind)] ++ ([(.int .i64 x.from_)] ++ ([(.int .i64 x.to)] ++ (x.commit.enc ++ (x.stamp.enc ++ (x.cert.enc ++ (x.ack.enc ++ ([(.int .i64 x.epoch)]))))))))) ++ ([(.int .i64 v)] ++ ([(.int .u64 x.time)] ++ (x.promise.enc ++ (x.proposal.enc ++ (x.vote.enc ++ ([(.int .i64 x.index)] ++ (x.entry.enc ++ (x.opening.enc ++ (x.deny.enc ++ ([(.string x.reply)] ++ (x.decided.enc ++ (([] : List Value))))))))))))) := by simp only [GMsg.enc, List.nil_append, List.append_assoc, List.append_nil]
  rw [e1, e2]; exact h
theorem fs70_9 (x : GMsg) (v : Int) (rest : List (Nat × Value)) : Instr.fill (fun i => ([(0, 1), (1, 1), (2, 1), (3, 37), (40, 38), (78, 38), (116, 38), (154, 1), (155, 1), (156, 1), (157, 6), (163, 11), (174, 38), (212, 1), (213, 35), (248, 34), (282, 4), (286, 1), (287, 8)] : List (Nat × Nat))[i]?) x.enc.toArray ((9, (.int .u64 v)) :: rest) = Instr.fill (fun i => ([(0, 1), (1, 1), (2, 1), (3, 37), (40, 38), (78, 38), (116, 38), (154, 1), (155, 1), (156, 1), (157, 6), (163, 11), (174, 38), (212, 1), (213, 35), (248, 34), (282, 4), (286, 1), (287, 8)] : List (Nat × Nat))[i]?) ({ x with time := v } : GMsg).enc.toArray rest := by
  have h := fill_seg [(0, 1), (1, 1), (2, 1), (3, 37), (40, 38), (78, 38), (116, 38), (154, 1), (155, 1), (156, 1), (157, 6), (163, 11), (174, 38), (212, 1), (213, 35), (248, 34), (282, 4), (286, 1), (287, 8)] 9 156 1 rfl (([] : List Value) ++ ([(.int .i64 x.kind)] ++ ([(.int .i64 x.from_)] ++ ([(.int .i64 x.to)] ++ (x.commit.enc ++ (x.stamp.enc ++ (x.cert.enc ++ (x.ack.enc ++ ([(.int .i64 x.epoch)] ++ ([(.int .i64 x.round)])))))))))) ([(.int .u64 x.time)]) (x.promise.enc ++ (x.proposal.enc ++ (x.vote.enc ++ ([(.int .i64 x.index)] ++ (x.entry.enc ++ (x.opening.enc ++ (x.deny.enc ++ ([(.string x.reply)] ++ (x.decided.enc ++ (([] : List Value))))))))))) ([(.int .u64 v)]) (.int .u64 v) rest (rfl) (by simp [GAck.enc_len, GCert.enc_len, GCommit.enc_len, GDecided.enc_len, GDeny.enc_len, GEntry.enc_len, GOpening.enc_len, GPromise.enc_len, GProposal.enc_len, GStamp.enc_len, GVote.enc_len]) (by simp [GAck.enc_len, GCert.enc_len, GCommit.enc_len, GDecided.enc_len, GDeny.enc_len, GEntry.enc_len, GOpening.enc_len, GPromise.enc_len, GProposal.enc_len, GStamp.enc_len, GVote.enc_len]) (by simp [GAck.enc_len, GCert.enc_len, GCommit.enc_len, GDecided.enc_len, GDeny.enc_len, GEntry.enc_len, GOpening.enc_len, GPromise.enc_len, GProposal.enc_len, GStamp.enc_len, GVote.enc_len])
  have e1 : x.enc = (([] : List Value) ++ ([(.int .i64 x.kind)] ++ ([(.int .i64 x.from_)] ++ ([(.int .i64 x.to)] ++ (x.commit.enc ++ (x.stamp.enc ++ (x.cert.enc ++ (x.ack.enc ++ ([(.int .i64 x.epoch)] ++ ([(.int .i64 x.round)])))))))))) ++ ([(.int .u64 x.time)] ++ (x.promise.enc ++ (x.proposal.enc ++ (x.vote.enc ++ ([(.int .i64 x.index)] ++ (x.entry.enc ++ (x.opening.enc ++ (x.deny.enc ++ ([(.string x.reply)] ++ (x.decided.enc ++ (([] : List Value)))))))))))) := by simp only [GMsg.enc, List.nil_append, List.append_assoc, List.append_nil]
  have e2 : ({ x with time := v } : GMsg).enc = (([] : List Value) ++ ([(.int .i64 x.kind)] ++ ([(.int .i64 x.from_)] ++ ([(.int .i64 x.to)] ++ (x.commit.enc ++ (x.stamp.enc ++ (x.cert.enc ++ (x.ack.enc ++ ([(.int .i64 x.epoch)] ++ ([(.int .i64 x.round)])))))))))) ++ ([(.int .u64 v)] ++ (x.promise.enc ++ (x.proposal.enc ++ (x.vote.enc ++ ([(.int .i64 x.index)] ++ (x.entry.enc ++ (x.opening.enc ++ (x.deny.enc ++ ([(.string x.reply)] ++ (x.decided.enc ++ (([] : List Value)))))))))))) := by simp only [GMsg.enc, List.nil_append, List.append_assoc, List.append_nil]
  rw [e1, e2]; exact h
theorem fs70_10 (x : GMsg) (v : GPromise) (rest : List (Nat × Value)) : Instr.fill (fun i => ([(0, 1), (1, 1), (2, 1), (3, 37), (40, 38), (78, 38), (116, 38), (154, 1), (155, 1), (156, 1), (157, 6), (163, 11), (174, 38), (212, 1), (213, 35), (248, 34), (282, 4), (286, 1), (287, 8)] : List (Nat × Nat))[i]?) x.enc.toArray ((10, (v.val)) :: rest) = Instr.fill (fun i => ([(0, 1), (1, 1), (2, 1), (3, 37), (40, 38), (78, 38), (116, 38), (154, 1), (155, 1), (156, 1), (157, 6), (163, 11), (174, 38), (212, 1), (213, 35), (248, 34), (282, 4), (286, 1), (287, 8)] : List (Nat × Nat))[i]?) ({ x with promise := v } : GMsg).enc.toArray rest := by
  have h := fill_seg [(0, 1), (1, 1), (2, 1), (3, 37), (40, 38), (78, 38), (116, 38), (154, 1), (155, 1), (156, 1), (157, 6), (163, 11), (174, 38), (212, 1), (213, 35), (248, 34), (282, 4), (286, 1), (287, 8)] 10 157 6 rfl (([] : List Value) ++ ([(.int .i64 x.kind)] ++ ([(.int .i64 x.from_)] ++ ([(.int .i64 x.to)] ++ (x.commit.enc ++ (x.stamp.enc ++ (x.cert.enc ++ (x.ack.enc ++ ([(.int .i64 x.epoch)] ++ ([(.int .i64 x.round)] ++ ([(.int .u64 x.time)]))))))))))) (x.promise.enc) (x.proposal.enc ++ (x.vote.enc ++ ([(.int .i64 x.index)] ++ (x.entry.enc ++ (x.opening.enc ++ (x.deny.enc ++ ([(.string x.reply)] ++ (x.decided.enc ++ (([] : List Value)))))))))) (v.enc) (v.val) rest (by rw [GPromise.val_eq]; rfl) (by simp [GAck.enc_len, GCert.enc_len, GCommit.enc_len, GDecided.enc_len, GDeny.enc_len, GEntry.enc_len, GOpening.enc_len, GPromise.enc_len, GProposal.enc_len, GStamp.enc_len, GVote.enc_len]) (by simp [GAck.enc_len, GCert.enc_len, GCommit.enc_len, GDecided.enc_len, GDeny.enc_len, GEntry.enc_len, GOpening.enc_len, GPromise.enc_len, GProposal.enc_len, GStamp.enc_len, GVote.enc_len]) (by simp [GAck.enc_len, GCert.enc_len, GCommit.enc_len, GDecided.enc_len, GDeny.enc_len, GEntry.enc_len, GOpening.enc_len, GPromise.enc_len, GProposal.enc_len, GStamp.enc_len, GVote.enc_len])
  have e1 : x.enc = (([] : List Value) ++ ([(.int .i64 x.kind)] ++ ([(.int .i64 x.from_)] ++ ([(.int .i64 x.to)] ++ (x.commit.enc ++ (x.stamp.enc ++ (x.cert.enc ++ (x.ack.enc ++ ([(.int .i64 x.epoch)] ++ ([(.int .i64 x.round)] ++ ([(.int .u64 x.time)]))))))))))) ++ (x.promise.enc ++ (x.proposal.enc ++ (x.vote.enc ++ ([(.int .i64 x.index)] ++ (x.entry.enc ++ (x.opening.enc ++ (x.deny.enc ++ ([(.string x.reply)] ++ (x.decided.enc ++ (([] : List Value))))))))))) := by simp only [GMsg.enc, List.nil_append, List.append_assoc, List.append_nil]
  have e2 : ({ x with promise := v } : GMsg).enc = (([] : List Value) ++ ([(.int .i64 x.kind)] ++ ([(.int .i64 x.from_)] ++ ([(.int .i64 x.to)] ++ (x.commit.enc ++ (x.stamp.enc ++ (x.cert.enc ++ (x.ack.enc ++ ([(.int .i64 x.epoch)] ++ ([(.int .i64 x.round)] ++ ([(.int .u64 x.time)]))))))))))) ++ (v.enc ++ (x.proposal.enc ++ (x.vote.enc ++ ([(.int .i64 x.index)] ++ (x.entry.enc ++ (x.opening.enc ++ (x.deny.enc ++ ([(.string x.reply)] ++ (x.decided.enc ++ (([] : List Value))))))))))) := by simp only [GMsg.enc, List.nil_append, List.append_assoc, List.append_nil]
  rw [e1, e2]; exact h
@[go_sem ↓ high] theorem xd_GMsg (ρ : Operand → Value) (dst : Option Tmp) (ps : Array (Nat × Operand)) (ty : TypeId) (pos : String) (after : Array Edge) (guard : Option (Nat × Bool)) : execOp ρ { dst, op := .build 70 ps, type := ty, pos, after, guard } = (do pure (.value (← gBuild 70 (ps.map fun (i, x) => (i, ρ x))))) := ex_build ..
@[go_sem ↓ high] theorem bd70_2 (w : World) (v0 : Int) (v1 : Int) (v2 : Int) (v3 : GCommit) : (gBuild 70 #[(0, (.int .i64 v0)), (1, (.int .i64 v1)), (2, (.int .i64 v2)), (3, (v3.val))]).run Tryz.prog w = .ok (GMsg.val ⟨v0, v1, v2, v3, default, default, default, 0, 0, 0, default, default, default, 0, default, default, default, ByteArray.empty, default⟩) w := by
  rw [GMsg.val_eq]
  refine run_gBuild_of uu70 zr70 pl70 ?_ w
  show Instr.fill _ (GMsg.enc default).toArray [(0, (.int .i64 v0)), (1, (.int .i64 v1)), (2, (.int .i64 v2)), (3, (v3.val))] = _
  rw [fs70_0, fs70_1, fs70_2, fs70_3]; rfl
@[go_sem ↓ high] theorem bd70_6 (w : World) (v0 : Int) (v1 : Int) (v2 : Int) : (gBuild 70 #[(0, (.int .i64 v0)), (1, (.int .i64 v1)), (2, (.int .i64 v2))]).run Tryz.prog w = .ok (GMsg.val ⟨v0, v1, v2, default, default, default, default, 0, 0, 0, default, default, default, 0, default, default, default, ByteArray.empty, default⟩) w := by
  rw [GMsg.val_eq]
  refine run_gBuild_of uu70 zr70 pl70 ?_ w
  show Instr.fill _ (GMsg.enc default).toArray [(0, (.int .i64 v0)), (1, (.int .i64 v1)), (2, (.int .i64 v2))] = _
  rw [fs70_0, fs70_1, fs70_2]; rfl
@[go_sem ↓ high] theorem bd70_7 (w : World) (v0 : Int) (v1 : Int) (v2 : Int) (v8 : Int) (v9 : Int) : (gBuild 70 #[(0, (.int .i64 v0)), (1, (.int .i64 v1)), (2, (.int .i64 v2)), (8, (.int .i64 v8)), (9, (.int .u64 v9))]).run Tryz.prog w = .ok (GMsg.val ⟨v0, v1, v2, default, default, default, default, 0, v8, v9, default, default, default, 0, default, default, default, ByteArray.empty, default⟩) w := by
  rw [GMsg.val_eq]
  refine run_gBuild_of uu70 zr70 pl70 ?_ w
  show Instr.fill _ (GMsg.enc default).toArray [(0, (.int .i64 v0)), (1, (.int .i64 v1)), (2, (.int .i64 v2)), (8, (.int .i64 v8)), (9, (.int .u64 v9))] = _
  rw [fs70_0, fs70_1, fs70_2, fs70_8, fs70_9]; rfl
@[go_sem ↓ high] theorem bd70_10 (w : World) (v0 : Int) (v4 : GStamp) : (gBuild 70 #[(0, (.int .i64 v0)), (4, (v4.val))]).run Tryz.prog w = .ok (GMsg.val ⟨v0, 0, 0, default, v4, default, default, 0, 0, 0, default, default, default, 0, default, default, default, ByteArray.empty, default⟩) w := by
  rw [GMsg.val_eq]
  refine run_gBuild_of uu70 zr70 pl70 ?_ w
  show Instr.fill _ (GMsg.enc default).toArray [(0, (.int .i64 v0)), (4, (v4.val))] = _
  rw [fs70_0, fs70_4]; rfl
@[go_sem ↓ high] theorem bd70_12 (w : World) (v0 : Int) (v10 : GPromise) : (gBuild 70 #[(0, (.int .i64 v0)), (10, (v10.val))]).run Tryz.prog w = .ok (GMsg.val ⟨v0, 0, 0, default, default, default, default, 0, 0, 0, v10, default, default, 0, default, default, default, ByteArray.empty, default⟩) w := by
  rw [GMsg.val_eq]
  refine run_gBuild_of uu70 zr70 pl70 ?_ w
  show Instr.fill _ (GMsg.enc default).toArray [(0, (.int .i64 v0)), (10, (v10.val))] = _
  rw [fs70_0, fs70_10]; rfl
@[go_sem ↓ high] theorem bd70_13 (w : World) (v0 : Int) (v7 : Int) (v8 : Int) (v9 : Int) : (gBuild 70 #[(0, (.int .i64 v0)), (7, (.int .i64 v7)), (8, (.int .i64 v8)), (9, (.int .u64 v9))]).run Tryz.prog w = .ok (GMsg.val ⟨v0, 0, 0, default, default, default, default, v7, v8, v9, default, default, default, 0, default, default, default, ByteArray.empty, default⟩) w := by
  rw [GMsg.val_eq]
  refine run_gBuild_of uu70 zr70 pl70 ?_ w
  show Instr.fill _ (GMsg.enc default).toArray [(0, (.int .i64 v0)), (7, (.int .i64 v7)), (8, (.int .i64 v8)), (9, (.int .u64 v9))] = _
  rw [fs70_0, fs70_7, fs70_8, fs70_9]; rfl
/-! ### []api.Msg -/
theorem ei30 : ElemI Tryz.prog 30 70 GMsg 960 := ⟨by kernel_rfl, by kernel_rfl⟩
@[go_sem ↓ high] theorem xg_30 (ρ : Operand → Value) (dst : Option Tmp) (ps : Array (Nat × Operand)) (ty : TypeId) (pos : String) (after : Array Edge) (guard : Option (Nat × Bool)) : execOp ρ { dst, op := .buildSlice 30 1 ps, type := ty, pos, after, guard } = (do pure (.value (← gBuildSlice 30 1 (ps.map fun (i, x) => (i, ρ x))))) := ex_buildSlice ..
@[go_sem ↓ high] theorem bs_30 (w : World) (x : GMsg) : (gBuildSlice 30 1 #[(0, GMsg.val x)]).run Tryz.prog w = .ok (.slice (some ⟨w.heap.size, 0, none⟩) 1 1) (w.alloc (.cells (GMsg.enc x).toArray 70)) := by
  rw [GMsg.val_eq]; exact run_buildSlice_one ei30 (by decide) x w
/-! ### []api.Vote -/
end Go.Proofs.YtfhhcgldikmejaaGreatDoor
