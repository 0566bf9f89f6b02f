/- Facts that the frames of all laws of this seat share. Conditions: none. -/
import Derived.Test.YthkifibmihijaaaGreatDoorP1
/- The struct types of this seat as Lean types, with the runs of single operations over them. Conditions: those named in each theorem. -/
namespace Go.Proofs.YthkifibmihijaaaGreatDoor
open Go Go.RowKit Go.Gv
set_option linter.unusedSimpArgs false

theorem na45 : aggT Tryz.prog 45 = false := by kernel_rfl
theorem us45 : (Tryz.prog.underlying 45).isSome = true := by kernel_rfl
theorem na50 : aggT Tryz.prog 50 = false := by kernel_rfl
theorem us50 : (Tryz.prog.underlying 50).isSome = true := by kernel_rfl
theorem na53 : aggT Tryz.prog 53 = false := by kernel_rfl
theorem us53 : (Tryz.prog.underlying 53).isSome = true := by kernel_rfl
theorem na54 : aggT Tryz.prog 54 = false := by kernel_rfl
theorem us54 : (Tryz.prog.underlying 54).isSome = true := by kernel_rfl
theorem na55 : aggT Tryz.prog 55 = false := by kernel_rfl
theorem us55 : (Tryz.prog.underlying 55).isSome = true := by kernel_rfl
theorem na64 : aggT Tryz.prog 64 = false := by kernel_rfl
theorem us64 : (Tryz.prog.underlying 64).isSome = true := by kernel_rfl
theorem na118 : aggT Tryz.prog 118 = false := by kernel_rfl
theorem us118 : (Tryz.prog.underlying 118).isSome = true := by kernel_rfl
theorem na119 : aggT Tryz.prog 119 = false := by kernel_rfl
theorem us119 : (Tryz.prog.underlying 119).isSome = true := by kernel_rfl
theorem na148 : aggT Tryz.prog 148 = false := by kernel_rfl
theorem us148 : (Tryz.prog.underlying 148).isSome = true := by kernel_rfl

/-! ### gavel/api.Conf -/
structure GConf where
  f : Int
  clients : Int
deriving DecidableEq
instance : Inhabited GConf := ⟨⟨0, 0⟩⟩
def GConf.enc (x : GConf) : List Value := [(.int .i64 x.f)] ++ ([(.int .i64 x.clients)])
theorem GConf.enc_len (x : GConf) : x.enc.length = 2 := by simp [GConf.enc]
theorem GConf.enc_one (x : GConf) : ∀ u ∈ x.enc, u.oneCell' = true := by
  intro u hu
  simp only [GConf.enc, List.mem_append, List.mem_singleton] at hu
  rcases hu with hu | hu
  · subst hu; rfl
  · subst hu; rfl
theorem GConf.enc_inj (x y : GConf) (h : x.enc = y.enc) : x = y := by
  obtain ⟨a0, a1⟩ := x
  obtain ⟨b0, b1⟩ := y
  simp only [GConf.enc] at h
  obtain ⟨p0, q0⟩ := List.append_inj h (rfl)
  have e0 : a0 = b0 := by have := List.head_eq_of_cons_eq p0; injection this
  have e1 : a1 = b1 := by have := List.head_eq_of_cons_eq q0; injection this
  rw [e0, e1]
instance : Enc GConf where
  n := 2
  enc := GConf.enc
  pos := by omega
  len := GConf.enc_len
  one := GConf.enc_one
  inj := GConf.enc_inj
@[go_sem] theorem GConf.n_eq : Enc.n GConf = 2 := rfl
@[irreducible] def GConf.val (x : GConf) : Value := .agg x.enc.toArray
theorem GConf.val_eq (x : GConf) : GConf.val x = .agg (Enc.enc x).toArray := by unfold GConf.val; rfl
theorem GConf.ext_all (x y : GConf) : x = y ↔ x.f = y.f ∧ x.clients = y.clients := by
  constructor
  · intro h; cases h; simp
  · intro h; cases x; cases y; simp_all
theorem uu23 : Tryz.prog.underlying 23 = some (.struct (Tryz.prog.fieldsOf 23)) := by kernel_rfl
theorem st23 : Tryz.prog.stoodInHeld 23 = false := by kernel_rfl
theorem fl23 : fieldTO Tryz.prog 23 = [(3, 0), (3, 1)] := by kernel_rfl
theorem nb23 : noBlank Tryz.prog 23 = true := by kernel_rfl
@[go_sem ↓ high] theorem xl_GConf (ρ : Operand → Value) (dst : Option Tmp) (x : Operand) (ty : TypeId) (pos : String) (after : Array Edge) (guard : Option (Nat × Bool)) : execOp ρ { dst, op := .load 23 x, type := ty, pos, after, guard } = (do pure (.value (← gLoad 23 (ρ x)))) := ex_load ..
@[go_sem ↓ high] theorem xs_GConf (ρ : Operand → Value) (dst : Option Tmp) (x y : Operand) (ty : TypeId) (pos : String) (after : Array Edge) (guard : Option (Nat × Bool)) : execOp ρ { dst, op := .store 23 x y, type := ty, pos, after, guard } = (do gStore 23 (ρ x) (ρ y); pure .skip) := ex_store ..
@[go_sem ↓ high] theorem xb_GConf (ρ : Operand → Value) (dst : Option Tmp) (x : Operand) (ty : TypeId) (pos : String) (after : Array Edge) (guard : Option (Nat × Bool)) : execOp ρ { dst, op := .box 23 x, type := ty, pos, after, guard } = (do pure (.value (← gBox 23 (ρ x)))) := ex_box ..
@[go_sem ↓ high] theorem xa_GConf (ρ : Operand → Value) (dst : Option Tmp) (ty : TypeId) (pos : String) (after : Array Edge) (guard : Option (Nat × Bool)) : execOp ρ { dst, op := .alloc 23, type := ty, pos, after, guard } = (do pure (.value (← gAlloc 23))) := ex_alloc ..
theorem ag23 : aggT Tryz.prog 23 = true := by kernel_rfl
theorem sz23 : sizeT Tryz.prog 23 = 2 := by kernel_rfl
section
variable (w : World)
@[go_sem ↓ high] theorem ld_GConf (a : Addr) : (gLoad 23 (.pointer (some a))).run Tryz.prog w = ofOpt ((get? GConf w a).map GConf.val) w (noLoad Tryz.prog 23 a w) := by
  unfold gLoad; exact run_loadAt_opt ag23 sz23 GConf.val GConf.val_eq
@[go_sem ↓ high] theorem st_GConf (a : Addr) (x : GConf) : (gStore 23 (.pointer (some a)) (GConf.val x)).run Tryz.prog w = okU' ((get? GConf w a).isSome && blkFree w a.block) (World.putCells w a (GConf.enc x)) (noStore Tryz.prog 23 (.pointer (some a)) (GConf.val x) w) := run_gStore_any sz23 GConf.val GConf.val_eq w a x
@[go_sem ↓ high] theorem bx_GConf (x : GConf) : (gBox 23 (GConf.val x)).run Tryz.prog w = .ok (.pointer (some ⟨w.heap.size, 0, none⟩)) (w.alloc (.cells (GConf.enc x).toArray 23)) := by
  rw [GConf.val_eq]; exact run_gBox _ w
end
theorem lk23_0 (x : GConf) : x.enc[0]? = some (.int .i64 x.f) := by
  simp [GConf.enc, List.getElem?_append]
theorem pt23_0 (w : World) (x : GConf) : (part 3 x.enc.toArray 0).run Tryz.prog w = .ok (.int .i64 x.f) w := run_part_one na3 us3 (lk23_0 x)
@[go_sem ↓ high] theorem fd23_0 (w : World) (x : GConf) : (gField 23 (GConf.val x) 0).run Tryz.prog w = .ok (.int .i64 x.f) w := by
  rw [GConf.val_eq]
  exact run_gField w uu23 (by rw [fl23]; rfl) (pt23_0 w x)
theorem lk23_1 (x : GConf) : x.enc[1]? = some (.int .i64 x.clients) := by
  simp [GConf.enc, List.getElem?_append]
theorem pt23_1 (w : World) (x : GConf) : (part 3 x.enc.toArray 1).run Tryz.prog w = .ok (.int .i64 x.clients) w := run_part_one na3 us3 (lk23_1 x)
@[go_sem ↓ high] theorem fd23_1 (w : World) (x : GConf) : (gField 23 (GConf.val x) 1).run Tryz.prog w = .ok (.int .i64 x.clients) w := by
  rw [GConf.val_eq]
  exact run_gField w uu23 (by rw [fl23]; rfl) (pt23_1 w x)
@[go_sem ↓ high] theorem xf_GConf (ρ : Operand → Value) (dst : Option Tmp) (x : Operand) (i : Nat) (ty : TypeId) (pos : String) (after : Array Edge) (guard : Option (Nat × Bool)) : execOp ρ { dst, op := .field 23 x i, type := ty, pos, after, guard } = (do pure (.value (← gField 23 (ρ x) i))) := ex_field ..
theorem zr23 : zeroT Tryz.prog 23 = some (.agg (GConf.enc default).toArray) := by kernel_rfl
@[go_sem ↓ high] theorem al_GConf (w : World) : (gAlloc 23).run Tryz.prog w = .ok (.pointer (some ⟨w.heap.size, 0, none⟩)) (w.alloc (.cells (GConf.enc default).toArray 23)) := run_zero_alloc zr23 w
@[go_sem] theorem pc_GConf (w : World) (n : Nat) (x z : GConf) (hn : n = w.heap.size) : World.putCells (w.alloc (.cells (GConf.enc z).toArray 23)) ⟨n, 0, none⟩ (GConf.enc x) = w.alloc (.cells (GConf.enc x).toArray 23) := putCells_top x z hn
theorem GConf.at_f {w : World} {a : Addr} {x : GConf} (h : get? GConf w a = some x) : w.cell? (a.add 0) = some (.int .i64 x.f) := (get?_iff.1 h) _ _ (lk23_0 x)
theorem GConf.at_clients {w : World} {a : Addr} {x : GConf} (h : get? GConf w a = some x) : w.cell? (a.add 1) = some (.int .i64 x.clients) := (get?_iff.1 h) _ _ (lk23_1 x)
@[go_sem] theorem nl23_0 (x : GConf) : x.enc[0]? = some (.int .i64 x.f) := by
  have h := (GConf.at_f (get?_new (w := (default : World)) 23 x))
  simp only [Addr.add_lit, Nat.zero_add, Nat.reduceAdd, World.cell?_alloc_new, List.getElem?_toArray] at h
  exact h
@[go_sem] theorem nl23_1 (x : GConf) : x.enc[1]? = some (.int .i64 x.clients) := by
  have h := (GConf.at_clients (get?_new (w := (default : World)) 23 x))
  simp only [Addr.add_lit, Nat.zero_add, Nat.reduceAdd, World.cell?_alloc_new, List.getElem?_toArray] at h
  exact h
@[go_sem] theorem nw23 (w : World) (n : Nat) (x : GConf) (hn : n = w.heap.size) : get? GConf (w.alloc (.cells (GConf.enc x).toArray 23)) ⟨n, 0, none⟩ = some x := by
  subst hn; exact get?_new 23 x
theorem pl23 : ((Tryz.prog.fieldsOf 23).toList.mapM fun f => (Tryz.prog.info? f.type).map fun i => (f.offset, i.size)) = some [(0, 1), (1, 1)] := by kernel_rfl
theorem fs23_0 (x : GConf) (v : Int) (rest : List (Nat × Value)) : Instr.fill (fun i => ([(0, 1), (1, 1)] : List (Nat × Nat))[i]?) x.enc.toArray ((0, (.int .i64 v)) :: rest) = Instr.fill (fun i => ([(0, 1), (1, 1)] : List (Nat × Nat))[i]?) ({ x with f := v } : GConf).enc.toArray rest := by
  have h := fill_seg [(0, 1), (1, 1)] 0 0 1 rfl (([] : List Value)) ([(.int .i64 x.f)]) ([(.int .i64 x.clients)] ++ (([] : List Value))) ([(.int .i64 v)]) (.int .i64 v) rest (rfl) (by simp) (by simp) (by simp)
  have e1 : x.enc = (([] : List Value)) ++ ([(.int .i64 x.f)] ++ ([(.int .i64 x.clients)] ++ (([] : List Value)))) := by simp only [GConf.enc, List.nil_append, List.append_assoc, List.append_nil]
  have e2 : ({ x with f := v } : GConf).enc = (([] : List Value)) ++ ([(.int .i64 v)] ++ ([(.int .i64 x.clients)] ++ (([] : List Value)))) := by simp only [GConf.enc, List.nil_append, List.append_assoc, List.append_nil]
  rw [e1, e2]; exact h
theorem fs23_1 (x : GConf) (v : Int) (rest : List (Nat × Value)) : Instr.fill (fun i => ([(0, 1), (1, 1)] : List (Nat × Nat))[i]?) x.enc.toArray ((1, (.int .i64 v)) :: rest) = Instr.fill (fun i => ([(0, 1), (1, 1)] : List (Nat × Nat))[i]?) ({ x with clients := v } : GConf).enc.toArray rest := by
  have h := fill_seg [(0, 1), (1, 1)] 1 1 1 rfl (([] : List Value) ++ ([(.int .i64 x.f)])) ([(.int .i64 x.clients)]) (([] : List Value)) ([(.int .i64 v)]) (.int .i64 v) rest (rfl) (by simp) (by simp) (by simp)
  have e1 : x.enc = (([] : List Value) ++ ([(.int .i64 x.f)])) ++ ([(.int .i64 x.clients)] ++ (([] : List Value))) := by simp only [GConf.enc, List.nil_append, List.append_assoc, List.append_nil]
  have e2 : ({ x with clients := v } : GConf).enc = (([] : List Value) ++ ([(.int .i64 x.f)])) ++ ([(.int .i64 v)] ++ (([] : List Value))) := by simp only [GConf.enc, List.nil_append, List.append_assoc, List.append_nil]
  rw [e1, e2]; exact h
@[go_sem ↓ high] theorem xd_GConf (ρ : Operand → Value) (dst : Option Tmp) (ps : Array (Nat × Operand)) (ty : TypeId) (pos : String) (after : Array Edge) (guard : Option (Nat × Bool)) : execOp ρ { dst, op := .build 23 ps, type := ty, pos, after, guard } = (do pure (.value (← gBuild 23 (ps.map fun (i, x) => (i, ρ x))))) := ex_build ..
@[go_sem ↓ high] theorem bd23_0 (w : World) (v0 : Int) (v1 : Int) : (gBuild 23 #[(0, (.int .i64 v0)), (1, (.int .i64 v1))]).run Tryz.prog w = .ok (GConf.val ⟨v0, v1⟩) w := by
  rw [GConf.val_eq]
  refine run_gBuild_of uu23 zr23 pl23 ?_ w
  show Instr.fill _ (GConf.enc default).toArray [(0, (.int .i64 v0)), (1, (.int .i64 v1))] = _
  rw [fs23_0, fs23_1]; rfl
theorem eq_GConf (w : World) (d : Nat) (x y : GConf) : (Op.equalIn (d + 2) 23 (GConf.val x) (GConf.val y)).run Tryz.prog w = .ok (decide (x = y)) w := by
  have q0 : ∀ a b, (Op.equalIn (d + 1) 3 (.int .i64 a) (.int .i64 b)).run Tryz.prog w = .ok (decide (a = b)) w := fun a b => by rw [run_equalIn_int w (d + 0) 3 .i64 .i64 a b uk3]; congr 1
  have q1 : ∀ a b, (Op.equalIn (d + 1) 3 (.int .i64 a) (.int .i64 b)).run Tryz.prog w = .ok (decide (a = b)) w := fun a b => by rw [run_equalIn_int w (d + 0) 3 .i64 .i64 a b uk3]; congr 1
  have h := run_equalIn_fields (d + 1) x.enc.toArray y.enc.toArray w uu23 st23 nb23
  rw [fl23] at h
  unfold GConf.val
  refine h.trans ?_
  clear h
  simp only [eqFs, Sem.run_bind, pt23_0, pt23_1, q0, q1, Result.andThen_ok, Sem.run_ite, Sem.run_pure]
  have he : decide (x = y) = (decide (x.f = y.f) && (decide (x.clients = y.clients))) := by
    rw [Bool.eq_iff_iff]; simp only [Bool.and_eq_true, decide_eq_true_eq]; exact GConf.ext_all x y
  rw [he]
  generalize decide (x.f = y.f) = c0; generalize decide (x.clients = y.clients) = c1
  cases c0 <;> cases c1 <;> simp
@[go_sem ↓ high] theorem xq_GConf (ρ : Operand → Value) (dst : Option Tmp) (x y : Operand) (ty yt : TypeId) (pos : String) (after : Array Edge) (guard : Option (Nat × Bool)) : execOp ρ { dst, op := .binOp .eql 23 x y yt, type := ty, pos, after, guard } = (do pure (.value (← gBin .eql 23 x y (ρ x) (ρ y)))) := ex_eql ..
@[go_sem ↓ high] theorem xn_GConf (ρ : Operand → Value) (dst : Option Tmp) (x y : Operand) (ty yt : TypeId) (pos : String) (after : Array Edge) (guard : Option (Nat × Bool)) : execOp ρ { dst, op := .binOp .neq 23 x y yt, type := ty, pos, after, guard } = (do pure (.value (← gBin .neq 23 x y (ρ x) (ρ y)))) := ex_neq ..
theorem eg_GConf : Tryz.prog.eqGuardType Tryz.prog.depth 23 = false := by kernel_rfl
@[go_sem ↓ high] theorem eql_GConf (w : World) (ox oy : Operand) (x y : GConf) : (gBin .eql 23 ox oy (GConf.val x) (GConf.val y)).run Tryz.prog w = .ok (.bool (decide (x = y))) w := by
  have h2 := eq_GConf w 9998 x y
  rw [GConf.val_eq, GConf.val_eq] at h2 ⊢
  have h := run_eqGuard_agg (P := Tryz.prog) w .eql 23 ox oy (Enc.enc x).toArray (Enc.enc y).toArray eg_GConf
  unfold gBin
  simp only [Sem.run_bind, h, Result.andThen_ok, run_eql_struct, h2]
@[go_sem ↓ high] theorem neq_GConf (w : World) (ox oy : Operand) (x y : GConf) : (gBin .neq 23 ox oy (GConf.val x) (GConf.val y)).run Tryz.prog w = .ok (.bool (!decide (x = y))) w := by
  have h2 := eq_GConf w 9998 x y
  rw [GConf.val_eq, GConf.val_eq] at h2 ⊢
  have h := run_eqGuard_agg (P := Tryz.prog) w .neq 23 ox oy (Enc.enc x).toArray (Enc.enc y).toArray eg_GConf
  unfold gBin
  simp only [Sem.run_bind, h, Result.andThen_ok, run_neq_struct, h2]

/-! ### gavel/ledger.Ledger -/
structure GLedgerLedger where
  epoch : Int
  last : Int
  l : Hdr
  names : Option Nat
  done : Int
deriving DecidableEq
instance : Inhabited GLedgerLedger := ⟨⟨0, 0, default, none, 0⟩⟩
def GLedgerLedger.enc (x : GLedgerLedger) : List Value := [(.int .i64 x.epoch)] ++ ([(.int .u64 x.last)] ++ ([(x.l.val)] ++ ([(.map x.names)] ++ ([(.int .i64 x.done)]))))
theorem GLedgerLedger.enc_len (x : GLedgerLedger) : x.enc.length = 5 := by simp [GLedgerLedger.enc]
theorem GLedgerLedger.enc_one (x : GLedgerLedger) : ∀ u ∈ x.enc, u.oneCell' = true := by
  intro u hu
  simp only [GLedgerLedger.enc, List.mem_append, List.mem_singleton] at hu
  rcases hu with hu | hu | hu | hu | hu
  · subst hu; rfl
  · subst hu; rfl
  · subst hu; rfl
  · subst hu; rfl
  · subst hu; rfl
theorem GLedgerLedger.enc_inj (x y : GLedgerLedger) (h : x.enc = y.enc) : x = y := by
  obtain ⟨a0, a1, a2, a3, a4⟩ := x
  obtain ⟨b0, b1, b2, b3, b4⟩ := y
  simp only [GLedgerLedger.enc] at h
  obtain ⟨p0, q0⟩ := List.append_inj h (rfl)
  have e0 : a0 = b0 := by have := List.head_eq_of_cons_eq p0; injection this
  obtain ⟨p1, q1⟩ := List.append_inj q0 (rfl)
  have e1 : a1 = b1 := by have := List.head_eq_of_cons_eq p1; injection this
  obtain ⟨p2, q2⟩ := List.append_inj q1 (rfl)
  have e2 : a2 = b2 := Enc.inj (α := Hdr) _ _ p2
  obtain ⟨p3, q3⟩ := List.append_inj q2 (rfl)
  have e3 : a3 = b3 := by have := List.head_eq_of_cons_eq p3; injection this
  have e4 : a4 = b4 := by have := List.head_eq_of_cons_eq q3; injection this
  rw [e0, e1, e2, e3, e4]
instance : Enc GLedgerLedger where
  n := 5
  enc := GLedgerLedger.enc
  pos := by omega
  len := GLedgerLedger.enc_len
  one := GLedgerLedger.enc_one
  inj := GLedgerLedger.enc_inj
@[go_sem] theorem GLedgerLedger.n_eq : Enc.n GLedgerLedger = 5 := rfl
@[irreducible] def GLedgerLedger.val (x : GLedgerLedger) : Value := .agg x.enc.toArray
theorem GLedgerLedger.val_eq (x : GLedgerLedger) : GLedgerLedger.val x = .agg (Enc.enc x).toArray := by unfold GLedgerLedger.val; rfl
theorem GLedgerLedger.ext_all (x y : GLedgerLedger) : x = y ↔ x.epoch = y.epoch ∧ x.last = y.last ∧ x.l = y.l ∧ x.names = y.names ∧ x.done = y.done := by
  constructor
  · intro h; cases h; simp
  · intro h; cases x; cases y; simp_all
theorem uu121 : Tryz.prog.underlying 121 = some (.struct (Tryz.prog.fieldsOf 121)) := by kernel_rfl
theorem st121 : Tryz.prog.stoodInHeld 121 = false := by kernel_rfl
theorem fl121 : fieldTO Tryz.prog 121 = [(3, 0), (42, 1), (118, 2), (119, 3), (3, 4)] := by kernel_rfl
theorem nb121 : noBlank Tryz.prog 121 = true := by kernel_rfl
@[go_sem ↓ high] theorem xl_GLedgerLedger (ρ : Operand → Value) (dst : Option Tmp) (x : Operand) (ty : TypeId) (pos : String) (after : Array Edge) (guard : Option (Nat × Bool)) : execOp ρ { dst, op := .load 121 x, type := ty, pos, after, guard } = (do pure (.value (← gLoad 121 (ρ x)))) := ex_load ..
@[go_sem ↓ high] theorem xs_GLedgerLedger (ρ : Operand → Value) (dst : Option Tmp) (x y : Operand) (ty : TypeId) (pos : String) (after : Array Edge) (guard : Option (Nat × Bool)) : execOp ρ { dst, op := .store 121 x y, type := ty, pos, after, guard } = (do gStore 121 (ρ x) (ρ y); pure .skip) := ex_store ..
@[go_sem ↓ high] theorem xb_GLedgerLedger (ρ : Operand → Value) (dst : Option Tmp) (x : Operand) (ty : TypeId) (pos : String) (after : Array Edge) (guard : Option (Nat × Bool)) : execOp ρ { dst, op := .box 121 x, type := ty, pos, after, guard } = (do pure (.value (← gBox 121 (ρ x)))) := ex_box ..
@[go_sem ↓ high] theorem xa_GLedgerLedger (ρ : Operand → Value) (dst : Option Tmp) (ty : TypeId) (pos : String) (after : Array Edge) (guard : Option (Nat × Bool)) : execOp ρ { dst, op := .alloc 121, type := ty, pos, after, guard } = (do pure (.value (← gAlloc 121))) := ex_alloc ..
theorem ag121 : aggT Tryz.prog 121 = true := by kernel_rfl
theorem sz121 : sizeT Tryz.prog 121 = 5 := by kernel_rfl
section
variable (w : World)
@[go_sem ↓ high] theorem ld_GLedgerLedger (a : Addr) : (gLoad 121 (.pointer (some a))).run Tryz.prog w = ofOpt ((get? GLedgerLedger w a).map GLedgerLedger.val) w (noLoad Tryz.prog 121 a w) := by
  unfold gLoad; exact run_loadAt_opt ag121 sz121 GLedgerLedger.val GLedgerLedger.val_eq
@[go_sem ↓ high] theorem st_GLedgerLedger (a : Addr) (x : GLedgerLedger) : (gStore 121 (.pointer (some a)) (GLedgerLedger.val x)).run Tryz.prog w = okU' ((get? GLedgerLedger w a).isSome && blkFree w a.block) (World.putCells w a (GLedgerLedger.enc x)) (noStore Tryz.prog 121 (.pointer (some a)) (GLedgerLedger.val x) w) := run_gStore_any sz121 GLedgerLedger.val GLedgerLedger.val_eq w a x
@[go_sem ↓ high] theorem bx_GLedgerLedger (x : GLedgerLedger) : (gBox 121 (GLedgerLedger.val x)).run Tryz.prog w = .ok (.pointer (some ⟨w.heap.size, 0, none⟩)) (w.alloc (.cells (GLedgerLedger.enc x).toArray 121)) := by
  rw [GLedgerLedger.val_eq]; exact run_gBox _ w
end
theorem lk121_0 (x : GLedgerLedger) : x.enc[0]? = some (.int .i64 x.epoch) := by
  simp [GLedgerLedger.enc, List.getElem?_append]
theorem pt121_0 (w : World) (x : GLedgerLedger) : (part 3 x.enc.toArray 0).run Tryz.prog w = .ok (.int .i64 x.epoch) w := run_part_one na3 us3 (lk121_0 x)
@[go_sem ↓ high] theorem fd121_0 (w : World) (x : GLedgerLedger) : (gField 121 (GLedgerLedger.val x) 0).run Tryz.prog w = .ok (.int .i64 x.epoch) w := by
  rw [GLedgerLedger.val_eq]
  exact run_gField w uu121 (by rw [fl121]; rfl) (pt121_0 w x)
theorem lk121_1 (x : GLedgerLedger) : x.enc[1]? = some (.int .u64 x.last) := by
  simp [GLedgerLedger.enc, List.getElem?_append]
theorem pt121_1 (w : World) (x : GLedgerLedger) : (part 42 x.enc.toArray 1).run Tryz.prog w = .ok (.int .u64 x.last) w := run_part_one na42 us42 (lk121_1 x)
@[go_sem ↓ high] theorem fd121_1 (w : World) (x : GLedgerLedger) : (gField 121 (GLedgerLedger.val x) 1).run Tryz.prog w = .ok (.int .u64 x.last) w := by
  rw [GLedgerLedger.val_eq]
  exact run_gField w uu121 (by rw [fl121]; rfl) (pt121_1 w x)
theorem lk121_2 (x : GLedgerLedger) : x.enc[2]? = some (x.l.val) := by
  simp [GLedgerLedger.enc, List.getElem?_append]
theorem pt121_2 (w : World) (x : GLedgerLedger) : (part 118 x.enc.toArray 2).run Tryz.prog w = .ok (x.l.val) w := run_part_one na118 us118 (lk121_2 x)
@[go_sem ↓ high] theorem fd121_2 (w : World) (x : GLedgerLedger) : (gField 121 (GLedgerLedger.val x) 2).run Tryz.prog w = .ok (x.l.val) w := by
  rw [GLedgerLedger.val_eq]
  exact run_gField w uu121 (by rw [fl121]; rfl) (pt121_2 w x)
theorem lk121_3 (x : GLedgerLedger) : x.enc[3]? = some (.map x.names) := by
  simp [GLedgerLedger.enc, List.getElem?_append]
theorem pt121_3 (w : World) (x : GLedgerLedger) : (part 119 x.enc.toArray 3).run Tryz.prog w = .ok (.map x.names) w := run_part_one na119 us119 (lk121_3 x)
@[go_sem ↓ high] theorem fd121_3 (w : World) (x : GLedgerLedger) : (gField 121 (GLedgerLedger.val x) 3).run Tryz.prog w = .ok (.map x.names) w := by
  rw [GLedgerLedger.val_eq]
  exact run_gField w uu121 (by rw [fl121]; rfl) (pt121_3 w x)
theorem lk121_4 (x : GLedgerLedger) : x.enc[4]? = some (.int .i64 x.done) := by
  simp [GLedgerLedger.enc, List.getElem?_append]
theorem pt121_4 (w : World) (x : GLedgerLedger) : (part 3 x.enc.toArray 4).run Tryz.prog w = .ok (.int .i64 x.done) w := run_part_one na3 us3 (lk121_4 x)
@[go_sem ↓ high] theorem fd121_4 (w : World) (x : GLedgerLedger) : (gField 121 (GLedgerLedger.val x) 4).run Tryz.prog w = .ok (.int .i64 x.done) w := by
  rw [GLedgerLedger.val_eq]
  exact run_gField w uu121 (by rw [fl121]; rfl) (pt121_4 w x)
@[go_sem ↓ high] theorem xf_GLedgerLedger (ρ : Operand → Value) (dst : Option Tmp) (x : Operand) (i : Nat) (ty : TypeId) (pos : String) (after : Array Edge) (guard : Option (Nat × Bool)) : execOp ρ { dst, op := .field 121 x i, type := ty, pos, after, guard } = (do pure (.value (← gField 121 (ρ x) i))) := ex_field ..
theorem zr121 : zeroT Tryz.prog 121 = some (.agg (GLedgerLedger.enc default).toArray) := by kernel_rfl
@[go_sem ↓ high] theorem al_GLedgerLedger (w : World) : (gAlloc 121).run Tryz.prog w = .ok (.pointer (some ⟨w.heap.size, 0, none⟩)) (w.alloc (.cells (GLedgerLedger.enc default).toArray 121)) := run_zero_alloc zr121 w
@[go_sem] theorem pc_GLedgerLedger (w : World) (n : Nat) (x z : GLedgerLedger) (hn : n = w.heap.size) : World.putCells (w.alloc (.cells (GLedgerLedger.enc z).toArray 121)) ⟨n, 0, none⟩ (GLedgerLedger.enc x) = w.alloc (.cells (GLedgerLedger.enc x).toArray 121) := putCells_top x z hn
theorem GLedgerLedger.at_epoch {w : World} {a : Addr} {x : GLedgerLedger} (h : get? GLedgerLedger w a = some x) : w.cell? (a.add 0) = some (.int .i64 x.epoch) := (get?_iff.1 h) _ _ (lk121_0 x)
theorem GLedgerLedger.at_last {w : World} {a : Addr} {x : GLedgerLedger} (h : get? GLedgerLedger w a = some x) : w.cell? (a.add 1) = some (.int .u64 x.last) := (get?_iff.1 h) _ _ (lk121_1 x)
theorem GLedgerLedger.at_l {w : World} {a : Addr} {x : GLedgerLedger} (h : get? GLedgerLedger w a = some x) : w.cell? (a.add 2) = some (x.l.val) := (get?_iff.1 h) _ _ (lk121_2 x)
theorem GLedgerLedger.at_names {w : World} {a : Addr} {x : GLedgerLedger} (h : get? GLedgerLedger w a = some x) : w.cell? (a.add 3) = some (.map x.names) := (get?_iff.1 h) _ _ (lk121_3 x)
theorem GLedgerLedger.at_done {w : World} {a : Addr} {x : GLedgerLedger} (h : get? GLedgerLedger w a = some x) : w.cell? (a.add 4) = some (.int .i64 x.done) := (get?_iff.1 h) _ _ (lk121_4 x)
@[go_sem] theorem nl121_0 (x : GLedgerLedger) : x.enc[0]? = some (.int .i64 x.epoch) := by
  have h := (GLedgerLedger.at_epoch (get?_new (w := (default : World)) 121 x))
  simp only [Addr.add_lit, Nat.zero_add, Nat.reduceAdd, World.cell?_alloc_new, List.getElem?_toArray] at h
  exact h
@[go_sem] theorem nl121_1 (x : GLedgerLedger) : x.enc[1]? = some (.int .u64 x.last) := by
  have h := (GLedgerLedger.at_last (get?_new (w := (default : World)) 121 x))
  simp only [Addr.add_lit, Nat.zero_add, Nat.reduceAdd, World.cell?_alloc_new, List.getElem?_toArray] at h
  exact h
@[go_sem] theorem nl121_2 (x : GLedgerLedger) : x.enc[2]? = some (x.l.val) := by
  have h := (GLedgerLedger.at_l (get?_new (w := (default : World)) 121 x))
  simp only [Addr.add_lit, Nat.zero_add, Nat.reduceAdd, World.cell?_alloc_new, List.getElem?_toArray] at h
  exact h
@[go_sem] theorem nl121_3 (x : GLedgerLedger) : x.enc[3]? = some (.map x.names) := by
  have h := (GLedgerLedger.at_names (get?_new (w := (default : World)) 121 x))
  simp only [Addr.add_lit, Nat.zero_add, Nat.reduceAdd, World.cell?_alloc_new, List.getElem?_toArray] at h
  exact h
@[go_sem] theorem nl121_4 (x : GLedgerLedger) : x.enc[4]? = some (.int .i64 x.done) := by
  have h := (GLedgerLedger.at_done (get?_new (w := (default : World)) 121 x))
  simp only [Addr.add_lit, Nat.zero_add, Nat.reduceAdd, World.cell?_alloc_new, List.getElem?_toArray] at h
  exact h
@[go_sem] theorem nw121 (w : World) (n : Nat) (x : GLedgerLedger) (hn : n = w.heap.size) : get? GLedgerLedger (w.alloc (.cells (GLedgerLedger.enc x).toArray 121)) ⟨n, 0, none⟩ = some x := by
  subst hn; exact get?_new 121 x
theorem pl121 : ((Tryz.prog.fieldsOf 121).toList.mapM fun f => (Tryz.prog.info? f.type).map fun i => (f.offset, i.size)) = some [(0, 1), (1, 1), (2, 1), (3, 1), (4, 1)] := by kernel_rfl
theorem fs121_3 (x : GLedgerLedger) (v : Option Nat) (rest : List (Nat × Value)) : Instr.fill (fun i => ([(0, 1), (1, 1), (2, 1), (3, 1), (4, 1)] : List (Nat × Nat))[i]?) x.enc.toArray ((3, (.map v)) :: rest) = Instr.fill (fun i => ([(0, 1), (1, 1), (2, 1), (3, 1), (4, 1)] : List (Nat × Nat))[i]?) ({ x with names := v } : GLedgerLedger).enc.toArray rest := by
  have h := fill_seg [(0, 1), (1, 1), (2, 1), (3, 1), (4, 1)] 3 3 1 rfl (([] : List Value) ++ ([(.int .i64 x.epoch)] ++ ([(.int .u64 x.last)] ++ ([(x.l.val)])))) ([(.map x.names)]) ([(.int .i64 x.done)] ++ (([] : List Value))) ([(.map v)]) (.map v) rest (rfl) (by simp) (by simp) (by simp)
  have e1 : x.enc = (([] : List Value) ++ ([(.int .i64 x.epoch)] ++ ([(.int .u64 x.last)] ++ ([(x.l.val)])))) ++ ([(.map x.names)] ++ ([(.int .i64 x.done)] ++ (([] : List Value)))) := by simp only [GLedgerLedger.enc, List.nil_append, List.append_assoc, List.append_nil]
  have e2 : ({ x with names := v } : GLedgerLedger).enc = (([] : List Value) ++ ([(.int .i64 x.epoch)] ++ ([(.int .u64 x.last)] ++ ([(x.l.val)])))) ++ ([(.map v)] ++ ([(.int .i64 x.done)] ++ (([] : List Value)))) := by simp only [GLedgerLedger.enc, List.nil_append, List.append_assoc, List.append_nil]
  rw [e1, e2]; exact h
@[go_sem ↓ high] theorem xd_GLedgerLedger (ρ : Operand → Value) (dst : Option Tmp) (ps : Array (Nat × Operand)) (ty : TypeId) (pos : String) (after : Array Edge) (guard : Option (Nat × Bool)) : execOp ρ { dst, op := .build 121 ps, type := ty, pos, after, guard } = (do pure (.value (← gBuild 121 (ps.map fun (i, x) => (i, ρ x))))) := ex_build ..
@[go_sem ↓ high] theorem bd121_0 (w : World) (v3 : Option Nat) : (gBuild 121 #[(3, (.map v3))]).run Tryz.prog w = .ok (GLedgerLedger.val ⟨0, 0, default, v3, 0⟩) w := by
  rw [GLedgerLedger.val_eq]
  refine run_gBuild_of uu121 zr121 pl121 ?_ w
  show Instr.fill _ (GLedgerLedger.enc default).toArray [(3, (.map v3))] = _
  rw [fs121_3]; rfl

/-! ### gavel/ledger.place -/
structure GLedgerPlace where
  e : GEntry
  status : Int
  payload : Hdr
deriving DecidableEq
instance : Inhabited GLedgerPlace := ⟨⟨default, 0, default⟩⟩
def GLedgerPlace.enc (x : GLedgerPlace) : List Value := x.e.enc ++ ([(.int .i64 x.status)] ++ ([(x.payload.val)]))
theorem GLedgerPlace.enc_len (x : GLedgerPlace) : x.enc.length = 37 := by simp [GLedgerPlace.enc, GEntry.enc_len]
theorem GLedgerPlace.enc_one (x : GLedgerPlace) : ∀ u ∈ x.enc, u.oneCell' = true := by
  intro u hu
  simp only [GLedgerPlace.enc, List.mem_append, List.mem_singleton] at hu
  rcases hu with hu | hu | hu
  · exact Enc.one (α := GEntry) _ _ hu
  · subst hu; rfl
  · subst hu; rfl
theorem GLedgerPlace.enc_inj (x y : GLedgerPlace) (h : x.enc = y.enc) : x = y := by
  obtain ⟨a0, a1, a2⟩ := x
  obtain ⟨b0, b1, b2⟩ := y
  simp only [GLedgerPlace.enc] at h
  obtain ⟨p0, q0⟩ := List.append_inj h (by simp [GEntry.enc_len])
  have e0 := Enc.inj (α := GEntry) _ _ p0
  obtain ⟨p1, q1⟩ := List.append_inj q0 (rfl)
  have e1 : a1 = b1 := by have := List.head_eq_of_cons_eq p1; injection this
  have e2 : a2 = b2 := Enc.inj (α := Hdr) _ _ q1
  rw [e0, e1, e2]
instance : Enc GLedgerPlace where
  n := 37
  enc := GLedgerPlace.enc
  pos := by omega
  len := GLedgerPlace.enc_len
  one := GLedgerPlace.enc_one
  inj := GLedgerPlace.enc_inj
@[go_sem] theorem GLedgerPlace.n_eq : Enc.n GLedgerPlace = 37 := rfl
@[irreducible] def GLedgerPlace.val (x : GLedgerPlace) : Value := .agg x.enc.toArray
theorem GLedgerPlace.val_eq (x : GLedgerPlace) : GLedgerPlace.val x = .agg (Enc.enc x).toArray := by unfold GLedgerPlace.val; rfl
theorem GLedgerPlace.ext_all (x y : GLedgerPlace) : x = y ↔ x.e = y.e ∧ x.status = y.status ∧ x.payload = y.payload := by
  constructor
  · intro h; cases h; simp
  · intro h; cases x; cases y; simp_all
theorem uu170 : Tryz.prog.underlying 170 = some (.struct (Tryz.prog.fieldsOf 170)) := by kernel_rfl
theorem st170 : Tryz.prog.stoodInHeld 170 = false := by kernel_rfl
theorem fl170 : fieldTO Tryz.prog 170 = [(63, 0), (3, 35), (64, 36)] := by kernel_rfl
theorem nb170 : noBlank Tryz.prog 170 = true := by kernel_rfl
@[go_sem ↓ high] theorem xl_GLedgerPlace (ρ : Operand → Value) (dst : Option Tmp) (x : Operand) (ty : TypeId) (pos : String) (after : Array Edge) (guard : Option (Nat × Bool)) : execOp ρ { dst, op := .load 170 x, type := ty, pos, after, guard } = (do pure (.value (← gLoad 170 (ρ x)))) := ex_load ..
@[go_sem ↓ high] theorem xs_GLedgerPlace (ρ : Operand → Value) (dst : Option Tmp) (x y : Operand) (ty : TypeId) (pos : String) (after : Array Edge) (guard : Option (Nat × Bool)) : execOp ρ { dst, op := .store 170 x y, type := ty, pos, after, guard } = (do gStore 170 (ρ x) (ρ y); pure .skip) := ex_store ..
@[go_sem ↓ high] theorem xb_GLedgerPlace (ρ : Operand → Value) (dst : Option Tmp) (x : Operand) (ty : TypeId) (pos : String) (after : Array Edge) (guard : Option (Nat × Bool)) : execOp ρ { dst, op := .box 170 x, type := ty, pos, after, guard } = (do pure (.value (← gBox 170 (ρ x)))) := ex_box ..
@[go_sem ↓ high] theorem xa_GLedgerPlace (ρ : Operand → Value) (dst : Option Tmp) (ty : TypeId) (pos : String) (after : Array Edge) (guard : Option (Nat × Bool)) : execOp ρ { dst, op := .alloc 170, type := ty, pos, after, guard } = (do pure (.value (← gAlloc 170))) := ex_alloc ..
theorem ag170 : aggT Tryz.prog 170 = true := by kernel_rfl
theorem sz170 : sizeT Tryz.prog 170 = 37 := by kernel_rfl
section
variable (w : World)
@[go_sem ↓ high] theorem ld_GLedgerPlace (a : Addr) : (gLoad 170 (.pointer (some a))).run Tryz.prog w = ofOpt ((get? GLedgerPlace w a).map GLedgerPlace.val) w (noLoad Tryz.prog 170 a w) := by
  unfold gLoad; exact run_loadAt_opt ag170 sz170 GLedgerPlace.val GLedgerPlace.val_eq
@[go_sem ↓ high] theorem st_GLedgerPlace (a : Addr) (x : GLedgerPlace) : (gStore 170 (.pointer (some a)) (GLedgerPlace.val x)).run Tryz.prog w = okU' ((get? GLedgerPlace w a).isSome && blkFree w a.block) (World.putCells w a (GLedgerPlace.enc x)) (noStore Tryz.prog 170 (.pointer (some a)) (GLedgerPlace.val x) w) := run_gStore_any sz170 GLedgerPlace.val GLedgerPlace.val_eq w a x
@[go_sem ↓ high] theorem bx_GLedgerPlace (x : GLedgerPlace) : (gBox 170 (GLedgerPlace.val x)).run Tryz.prog w = .ok (.pointer (some ⟨w.heap.size, 0, none⟩)) (w.alloc (.cells (GLedgerPlace.enc x).toArray 170)) := by
  rw [GLedgerPlace.val_eq]; exact run_gBox _ w
end
theorem ds170_0 (x : GLedgerPlace) : (x.enc.drop 0).take 35 = x.e.enc := by
  unfold GLedgerPlace.enc
  simp only [List.drop_zero] <;> (rw [List.take_append_of_le_length (by simp [GEntry.enc_len])]; exact List.take_of_length_le (by simp [GEntry.enc_len]))
theorem pt170_0 (w : World) (x : GLedgerPlace) : (part 63 x.enc.toArray 0).run Tryz.prog w = .ok (x.e.val) w := by
  have h := run_part_agg (P := Tryz.prog) (w := w) (cs := x.enc) (ds := x.e.enc) (off := 0) ag63 (by rw [GEntry.enc_len]; exact sz63) (by simp [GEntry.enc_len]) (by rw [GEntry.enc_len]; exact ds170_0 x)
  rw [h, GEntry.val_eq]; rfl
@[go_sem ↓ high] theorem fd170_0 (w : World) (x : GLedgerPlace) : (gField 170 (GLedgerPlace.val x) 0).run Tryz.prog w = .ok (x.e.val) w := by
  rw [GLedgerPlace.val_eq]
  exact run_gField w uu170 (by rw [fl170]; rfl) (pt170_0 w x)
theorem lk170_1 (x : GLedgerPlace) : x.enc[35]? = some (.int .i64 x.status) := by
  simp [GLedgerPlace.enc, List.getElem?_append, GEntry.enc_len]
theorem pt170_1 (w : World) (x : GLedgerPlace) : (part 3 x.enc.toArray 35).run Tryz.prog w = .ok (.int .i64 x.status) w := run_part_one na3 us3 (lk170_1 x)
@[go_sem ↓ high] theorem fd170_1 (w : World) (x : GLedgerPlace) : (gField 170 (GLedgerPlace.val x) 1).run Tryz.prog w = .ok (.int .i64 x.status) w := by
  rw [GLedgerPlace.val_eq]
  exact run_gField w uu170 (by rw [fl170]; rfl) (pt170_1 w x)
theorem lk170_2 (x : GLedgerPlace) : x.enc[36]? = some (x.payload.val) := by
  simp [GLedgerPlace.enc, List.getElem?_append, GEntry.enc_len]
theorem pt170_2 (w : World) (x : GLedgerPlace) : (part 64 x.enc.toArray 36).run Tryz.prog w = .ok (x.payload.val) w := run_part_one na64 us64 (lk170_2 x)
@[go_sem ↓ high] theorem fd170_2 (w : World) (x : GLedgerPlace) : (gField 170 (GLedgerPlace.val x) 2).run Tryz.prog w = .ok (x.payload.val) w := by
  rw [GLedgerPlace.val_eq]
  exact run_gField w uu170 (by rw [fl170]; rfl) (pt170_2 w x)
@[go_sem ↓ high] theorem xf_GLedgerPlace (ρ : Operand → Value) (dst : Option Tmp) (x : Operand) (i : Nat) (ty : TypeId) (pos : String) (after : Array Edge) (guard : Option (Nat × Bool)) : execOp ρ { dst, op := .field 170 x i, type := ty, pos, after, guard } = (do pure (.value (← gField 170 (ρ x) i))) := ex_field ..
theorem zr170 : zeroT Tryz.prog 170 = some (.agg (GLedgerPlace.enc default).toArray) := by kernel_rfl
@[go_sem ↓ high] theorem al_GLedgerPlace (w : World) : (gAlloc 170).run Tryz.prog w = .ok (.pointer (some ⟨w.heap.size, 0, none⟩)) (w.alloc (.cells (GLedgerPlace.enc default).toArray 170)) := run_zero_alloc zr170 w
@[go_sem] theorem pc_GLedgerPlace (w : World) (n : Nat) (x z : GLedgerPlace) (hn : n = w.heap.size) : World.putCells (w.alloc (.cells (GLedgerPlace.enc z).toArray 170)) ⟨n, 0, none⟩ (GLedgerPlace.enc x) = w.alloc (.cells (GLedgerPlace.enc x).toArray 170) := putCells_top x z hn
theorem GLedgerPlace.at_e {w : World} {a : Addr} {x : GLedgerPlace} (h : get? GLedgerPlace w a = some x) : get? GEntry w (a.add 0) = some x.e := by
  rw [get?_iff] at h ⊢
  refine h.sub 0 fun j v hv => ?_
  have hd := ds170_0 x
  have hj : j < 35 := by have := (List.getElem?_eq_some_iff.1 hv).1; rwa [Enc.len] at this
  show x.enc[0 + j]? = some v
  rw [← List.getElem?_drop, ← List.getElem?_take_of_lt hj, hd]; exact hv
theorem GLedgerPlace.at_status {w : World} {a : Addr} {x : GLedgerPlace} (h : get? GLedgerPlace w a = some x) : w.cell? (a.add 35) = some (.int .i64 x.status) := (get?_iff.1 h) _ _ (lk170_1 x)
theorem GLedgerPlace.at_payload {w : World} {a : Addr} {x : GLedgerPlace} (h : get? GLedgerPlace w a = some x) : w.cell? (a.add 36) = some (x.payload.val) := (get?_iff.1 h) _ _ (lk170_2 x)
@[go_sem] theorem nw170_0_GEntry (w : World) (n : Nat) (x : GLedgerPlace) (hn : n = w.heap.size) : get? GEntry (w.alloc (.cells (GLedgerPlace.enc x).toArray 170)) ⟨n, 0, none⟩ = some x.e := by
  subst hn
  have h := (GLedgerPlace.at_e (get?_new (w := w) 170 x))
  simp only [Addr.add_lit, Nat.zero_add, Nat.reduceAdd] at h
  exact h
@[go_sem] theorem nw170_0_GName (w : World) (n : Nat) (x : GLedgerPlace) (hn : n = w.heap.size) : get? GName (w.alloc (.cells (GLedgerPlace.enc x).toArray 170)) ⟨n, 0, none⟩ = some x.e.name := by
  subst hn
  have h := (GEntry.at_name (GLedgerPlace.at_e (get?_new (w := w) 170 x)))
  simp only [Addr.add_lit, Nat.zero_add, Nat.reduceAdd] at h
  exact h
@[go_sem] theorem nl170_0 (x : GLedgerPlace) : x.enc[0]? = some (.int .i64 x.e.name.client) := by
  have h := (GName.at_client (GEntry.at_name (GLedgerPlace.at_e (get?_new (w := (default : World)) 170 x))))
  simp only [Addr.add_lit, Nat.zero_add, Nat.reduceAdd, World.cell?_alloc_new, List.getElem?_toArray] at h
  exact h
@[go_sem] theorem nl170_1 (x : GLedgerPlace) : x.enc[1]? = some (.int .i64 x.e.name.seq) := by
  have h := (GName.at_seq (GEntry.at_name (GLedgerPlace.at_e (get?_new (w := (default : World)) 170 x))))
  simp only [Addr.add_lit, Nat.zero_add, Nat.reduceAdd, World.cell?_alloc_new, List.getElem?_toArray] at h
  exact h
@[go_sem] theorem nw170_2_GHash (w : World) (n : Nat) (x : GLedgerPlace) (hn : n = w.heap.size) : get? GHash (w.alloc (.cells (GLedgerPlace.enc x).toArray 170)) ⟨n, 2, none⟩ = some x.e.hash := by
  subst hn
  have h := (GEntry.at_hash (GLedgerPlace.at_e (get?_new (w := w) 170 x)))
  simp only [Addr.add_lit, Nat.zero_add, Nat.reduceAdd] at h
  exact h
@[go_sem] theorem nl170_34 (x : GLedgerPlace) : x.enc[34]? = some (.int .u64 x.e.time) := by
  have h := (GEntry.at_time (GLedgerPlace.at_e (get?_new (w := (default : World)) 170 x)))
  simp only [Addr.add_lit, Nat.zero_add, Nat.reduceAdd, World.cell?_alloc_new, List.getElem?_toArray] at h
  exact h
@[go_sem] theorem nl170_35 (x : GLedgerPlace) : x.enc[35]? = some (.int .i64 x.status) := by
  have h := (GLedgerPlace.at_status (get?_new (w := (default : World)) 170 x))
  simp only [Addr.add_lit, Nat.zero_add, Nat.reduceAdd, World.cell?_alloc_new, List.getElem?_toArray] at h
  exact h
@[go_sem] theorem nl170_36 (x : GLedgerPlace) : x.enc[36]? = some (x.payload.val) := by
  have h := (GLedgerPlace.at_payload (get?_new (w := (default : World)) 170 x))
  simp only [Addr.add_lit, Nat.zero_add, Nat.reduceAdd, World.cell?_alloc_new, List.getElem?_toArray] at h
  exact h
@[go_sem] theorem nw170 (w : World) (n : Nat) (x : GLedgerPlace) (hn : n = w.heap.size) : get? GLedgerPlace (w.alloc (.cells (GLedgerPlace.enc x).toArray 170)) ⟨n, 0, none⟩ = some x := by
  subst hn; exact get?_new 170 x
theorem pl170 : ((Tryz.prog.fieldsOf 170).toList.mapM fun f => (Tryz.prog.info? f.type).map fun i => (f.offset, i.size)) = some [(0, 35), (35, 1), (36, 1)] := by kernel_rfl
theorem fs170_0 (x : GLedgerPlace) (v : GEntry) (rest : List (Nat × Value)) : Instr.fill (fun i => ([(0, 35), (35, 1), (36, 1)] : List (Nat × Nat))[i]?) x.enc.toArray ((0, (v.val)) :: rest) = Instr.fill (fun i => ([(0, 35), (35, 1), (36, 1)] : List (Nat × Nat))[i]?) ({ x with e := v } : GLedgerPlace).enc.toArray rest := by
  have h := fill_seg [(0, 35), (35, 1), (36, 1)] 0 0 35 rfl (([] : List Value)) (x.e.enc) ([(.int .i64 x.status)] ++ ([(x.payload.val)] ++ (([] : List Value)))) (v.enc) (v.val) rest (by rw [GEntry.val_eq]; rfl) (by simp [GEntry.enc_len]) (by simp [GEntry.enc_len]) (by simp [GEntry.enc_len])
  have e1 : x.enc = (([] : List Value)) ++ (x.e.enc ++ ([(.int .i64 x.status)] ++ ([(x.payload.val)] ++ (([] : List Value))))) := by simp only [GLedgerPlace.enc, List.nil_append, List.append_assoc, List.append_nil]
  have e2 : ({ x with e := v } : GLedgerPlace).enc = (([] : List Value)) ++ (v.enc ++ ([(.int .i64 x.status)] ++ ([(x.payload.val)] ++ (([] : List Value))))) := by simp only [GLedgerPlace.enc, List.nil_append, List.append_assoc, List.append_nil]
  rw [e1, e2]; exact h
theorem fs170_1 (x : GLedgerPlace) (v : Int) (rest : List (Nat × Value)) : Instr.fill (fun i => ([(0, 35), (35, 1), (36, 1)] : List (Nat × Nat))[i]?) x.enc.toArray ((1, (.int .i64 v)) :: rest) = Instr.fill (fun i => ([(0, 35), (35, 1), (36, 1)] : List (Nat × Nat))[i]?) ({ x with status := v } : GLedgerPlace).enc.toArray rest := by
  have h := fill_seg [(0, 35), (35, 1), (36, 1)] 1 35 1 rfl (([] : List Value) ++ (x.e.enc)) ([(.int .i64 x.status)]) ([(x.payload.val)] ++ (([] : List Value))) ([(.int .i64 v)]) (.int .i64 v) rest (rfl) (by simp [GEntry.enc_len]) (by simp [GEntry.enc_len]) (by simp [GEntry.enc_len])
  have e1 : x.enc = (([] : List Value) ++ (x.e.enc)) ++ ([(.int .i64 x.status)] ++ ([(x.payload.val)] ++ (([] : List Value)))) := by simp only [GLedgerPlace.enc, List.nil_append, List.append_assoc, List.append_nil]
  have e2 : ({ x with status := v } : GLedgerPlace).enc = (([] : List Value) ++ (x.e.enc)) ++ ([(.int .i64 v)] ++ ([(x.payload.val)] ++ (([] : List Value)))) := by simp only [GLedgerPlace.enc, List.nil_append, List.append_assoc, List.append_nil]
  rw [e1, e2]; exact h
@[go_sem ↓ high] theorem xd_GLedgerPlace (ρ : Operand → Value) (dst : Option Tmp) (ps : Array (Nat × Operand)) (ty : TypeId) (pos : String) (after : Array Edge) (guard : Option (Nat × Bool)) : execOp ρ { dst, op := .build 170 ps, type := ty, pos, after, guard } = (do pure (.value (← gBuild 170 (ps.map fun (i, x) => (i, ρ x))))) := ex_build ..
@[go_sem ↓ high] theorem bd170_0 (w : World) (v0 : GEntry) (v1 : Int) : (gBuild 170 #[(0, (v0.val)), (1, (.int .i64 v1))]).run Tryz.prog w = .ok (GLedgerPlace.val ⟨v0, v1, default⟩) w := by
  rw [GLedgerPlace.val_eq]
  refine run_gBuild_of uu170 zr170 pl170 ?_ w
  show Instr.fill _ (GLedgerPlace.enc default).toArray [(0, (v0.val)), (1, (.int .i64 v1))] = _
  rw [fs170_0, fs170_1]; rfl

/-! ### gavel/api.Batch -/
structure GBatch where
  epoch : Int
  time : Int
  promises : Hdr
  openings : Hdr
  tombs : Hdr
deriving DecidableEq
instance : Inhabited GBatch := ⟨⟨0, 0, default, default, default⟩⟩
def GBatch.enc (x : GBatch) : List Value := [(.int .i64 x.epoch)] ++ ([(.int .u64 x.time)] ++ ([(x.promises.val)] ++ ([(x.openings.val)] ++ ([(x.tombs.val)]))))
theorem GBatch.enc_len (x : GBatch) : x.enc.length = 5 := by simp [GBatch.enc]
theorem GBatch.enc_one (x : GBatch) : ∀ u ∈ x.enc, u.oneCell' = true := by
  intro u hu
  simp only [GBatch.enc, List.mem_append, List.mem_singleton] at hu
  rcases hu with hu | hu | hu | hu | hu
  · subst hu; rfl
  · subst hu; rfl
  · subst hu; rfl
  · subst hu; rfl
  · subst hu; rfl
theorem GBatch.enc_inj (x y : GBatch) (h : x.enc = y.enc) : x = y := by
  obtain ⟨a0, a1, a2, a3, a4⟩ := x
  obtain ⟨b0, b1, b2, b3, b4⟩ := y
  simp only [GBatch.enc] at h
  obtain ⟨p0, q0⟩ := List.append_inj h (rfl)
  have e0 : a0 = b0 := by have := List.head_eq_of_cons_eq p0; injection this
  obtain ⟨p1, q1⟩ := List.append_inj q0 (rfl)
  have e1 : a1 = b1 := by have := List.head_eq_of_cons_eq p1; injection this
  obtain ⟨p2, q2⟩ := List.append_inj q1 (rfl)
  have e2 : a2 = b2 := Enc.inj (α := Hdr) _ _ p2
  obtain ⟨p3, q3⟩ := List.append_inj q2 (rfl)
  have e3 : a3 = b3 := Enc.inj (α := Hdr) _ _ p3
  have e4 : a4 = b4 := Enc.inj (α := Hdr) _ _ q3
  rw [e0, e1, e2, e3, e4]
instance : Enc GBatch where
  n := 5
  enc := GBatch.enc
  pos := by omega
  len := GBatch.enc_len
  one := GBatch.enc_one
  inj := GBatch.enc_inj
@[go_sem] theorem GBatch.n_eq : Enc.n GBatch = 5 := rfl
@[irreducible] def GBatch.val (x : GBatch) : Value := .agg x.enc.toArray
theorem GBatch.val_eq (x : GBatch) : GBatch.val x = .agg (Enc.enc x).toArray := by unfold GBatch.val; rfl
theorem GBatch.ext_all (x y : GBatch) : x = y ↔ x.epoch = y.epoch ∧ x.time = y.time ∧ x.promises = y.promises ∧ x.openings = y.openings ∧ x.tombs = y.tombs := by
  constructor
  · intro h; cases h; simp
  · intro h; cases x; cases y; simp_all
theorem uu57 : Tryz.prog.underlying 57 = some (.struct (Tryz.prog.fieldsOf 57)) := by kernel_rfl
theorem st57 : Tryz.prog.stoodInHeld 57 = false := by kernel_rfl
theorem fl57 : fieldTO Tryz.prog 57 = [(3, 0), (42, 1), (53, 2), (54, 3), (55, 4)] := by kernel_rfl
theorem nb57 : noBlank Tryz.prog 57 = true := by kernel_rfl
@[go_sem ↓ high] theorem xl_GBatch (ρ : Operand → Value) (dst : Option Tmp) (x : Operand) (ty : TypeId) (pos : String) (after : Array Edge) (guard : Option (Nat × Bool)) : execOp ρ { dst, op := .load 57 x, type := ty, pos, after, guard } = (do pure (.value (← gLoad 57 (ρ x)))) := ex_load ..
@[go_sem ↓ high] theorem xs_GBatch (ρ : Operand → Value) (dst : Option Tmp) (x y : Operand) (ty : TypeId) (pos : String) (after : Array Edge) (guard : Option (Nat × Bool)) : execOp ρ { dst, op := .store 57 x y, type := ty, pos, after, guard } = (do gStore 57 (ρ x) (ρ y); pure .skip) := ex_store ..
@[go_sem ↓ high] theorem xb_GBatch (ρ : Operand → Value) (dst : Option Tmp) (x : Operand) (ty : TypeId) (pos : String) (after : Array Edge) (guard : Option (Nat × Bool)) : execOp ρ { dst, op := .box 57 x, type := ty, pos, after, guard } = (do pure (.value (← gBox 57 (ρ x)))) := ex_box ..
@[go_sem ↓ high] theorem xa_GBatch (ρ : Operand → Value) (dst : Option Tmp) (ty : TypeId) (pos : String) (after : Array Edge) (guard : Option (Nat × Bool)) : execOp ρ { dst, op := .alloc 57, type := ty, pos, after, guard } = (do pure (.value (← gAlloc 57))) := ex_alloc ..
theorem ag57 : aggT Tryz.prog 57 = true := by kernel_rfl
theorem sz57 : sizeT Tryz.prog 57 = 5 := by kernel_rfl
section
variable (w : World)
@[go_sem ↓ high] theorem ld_GBatch (a : Addr) : (gLoad 57 (.pointer (some a))).run Tryz.prog w = ofOpt ((get? GBatch w a).map GBatch.val) w (noLoad Tryz.prog 57 a w) := by
  unfold gLoad; exact run_loadAt_opt ag57 sz57 GBatch.val GBatch.val_eq
@[go_sem ↓ high] theorem st_GBatch (a : Addr) (x : GBatch) : (gStore 57 (.pointer (some a)) (GBatch.val x)).run Tryz.prog w = okU' ((get? GBatch w a).isSome && blkFree w a.block) (World.putCells w a (GBatch.enc x)) (noStore Tryz.prog 57 (.pointer (some a)) (GBatch.val x) w) := run_gStore_any sz57 GBatch.val GBatch.val_eq w a x
@[go_sem ↓ high] theorem bx_GBatch (x : GBatch) : (gBox 57 (GBatch.val x)).run Tryz.prog w = .ok (.pointer (some ⟨w.heap.size, 0, none⟩)) (w.alloc (.cells (GBatch.enc x).toArray 57)) := by
  rw [GBatch.val_eq]; exact run_gBox _ w
end
theorem lk57_0 (x : GBatch) : x.enc[0]? = some (.int .i64 x.epoch) := by
  simp [GBatch.enc, List.getElem?_append]
theorem pt57_0 (w : World) (x : GBatch) : (part 3 x.enc.toArray 0).run Tryz.prog w = .ok (.int .i64 x.epoch) w := run_part_one na3 us3 (lk57_0 x)
@[go_sem ↓ high] theorem fd57_0 (w : World) (x : GBatch) : (gField 57 (GBatch.val x) 0).run Tryz.prog w = .ok (.int .i64 x.epoch) w := by
  rw [GBatch.val_eq]
  exact run_gField w uu57 (by rw [fl57]; rfl) (pt57_0 w x)
theorem lk57_1 (x : GBatch) : x.enc[1]? = some (.int .u64 x.time) := by
  simp [GBatch.enc, List.getElem?_append]
theorem pt57_1 (w : World) (x : GBatch) : (part 42 x.enc.toArray 1).run Tryz.prog w = .ok (.int .u64 x.time) w := run_part_one na42 us42 (lk57_1 x)
@[go_sem ↓ high] theorem fd57_1 (w : World) (x : GBatch) : (gField 57 (GBatch.val x) 1).run Tryz.prog w = .ok (.int .u64 x.time) w := by
  rw [GBatch.val_eq]
  exact run_gField w uu57 (by rw [fl57]; rfl) (pt57_1 w x)
theorem lk57_2 (x : GBatch) : x.enc[2]? = some (x.promises.val) := by
  simp [GBatch.enc, List.getElem?_append]
theorem pt57_2 (w : World) (x : GBatch) : (part 53 x.enc.toArray 2).run Tryz.prog w = .ok (x.promises.val) w := run_part_one na53 us53 (lk57_2 x)
@[go_sem ↓ high] theorem fd57_2 (w : World) (x : GBatch) : (gField 57 (GBatch.val x) 2).run Tryz.prog w = .ok (x.promises.val) w := by
  rw [GBatch.val_eq]
  exact run_gField w uu57 (by rw [fl57]; rfl) (pt57_2 w x)
theorem lk57_3 (x : GBatch) : x.enc[3]? = some (x.openings.val) := by
  simp [GBatch.enc, List.getElem?_append]
theorem pt57_3 (w : World) (x : GBatch) : (part 54 x.enc.toArray 3).run Tryz.prog w = .ok (x.openings.val) w := run_part_one na54 us54 (lk57_3 x)
@[go_sem ↓ high] theorem fd57_3 (w : World) (x : GBatch) : (gField 57 (GBatch.val x) 3).run Tryz.prog w = .ok (x.openings.val) w := by
  rw [GBatch.val_eq]
  exact run_gField w uu57 (by rw [fl57]; rfl) (pt57_3 w x)
theorem lk57_4 (x : GBatch) : x.enc[4]? = some (x.tombs.val) := by
  simp [GBatch.enc, List.getElem?_append]
theorem pt57_4 (w : World) (x : GBatch) : (part 55 x.enc.toArray 4).run Tryz.prog w = .ok (x.tombs.val) w := run_part_one na55 us55 (lk57_4 x)
@[go_sem ↓ high] theorem fd57_4 (w : World) (x : GBatch) : (gField 57 (GBatch.val x) 4).run Tryz.prog w = .ok (x.tombs.val) w := by
  rw [GBatch.val_eq]
  exact run_gField w uu57 (by rw [fl57]; rfl) (pt57_4 w x)
@[go_sem ↓ high] theorem xf_GBatch (ρ : Operand → Value) (dst : Option Tmp) (x : Operand) (i : Nat) (ty : TypeId) (pos : String) (after : Array Edge) (guard : Option (Nat × Bool)) : execOp ρ { dst, op := .field 57 x i, type := ty, pos, after, guard } = (do pure (.value (← gField 57 (ρ x) i))) := ex_field ..
theorem zr57 : zeroT Tryz.prog 57 = some (.agg (GBatch.enc default).toArray) := by kernel_rfl
@[go_sem ↓ high] theorem al_GBatch (w : World) : (gAlloc 57).run Tryz.prog w = .ok (.pointer (some ⟨w.heap.size, 0, none⟩)) (w.alloc (.cells (GBatch.enc default).toArray 57)) := run_zero_alloc zr57 w
@[go_sem] theorem pc_GBatch (w : World) (n : Nat) (x z : GBatch) (hn : n = w.heap.size) : World.putCells (w.alloc (.cells (GBatch.enc z).toArray 57)) ⟨n, 0, none⟩ (GBatch.enc x) = w.alloc (.cells (GBatch.enc x).toArray 57) := putCells_top x z hn
theorem GBatch.at_epoch {w : World} {a : Addr} {x : GBatch} (h : get? GBatch w a = some x) : w.cell? (a.add 0) = some (.int .i64 x.epoch) := (get?_iff.1 h) _ _ (lk57_0 x)
theorem GBatch.at_time {w : World} {a : Addr} {x : GBatch} (h : get? GBatch w a = some x) : w.cell? (a.add 1) = some (.int .u64 x.time) := (get?_iff.1 h) _ _ (lk57_1 x)
theorem GBatch.at_promises {w : World} {a : Addr} {x : GBatch} (h : get? GBatch w a = some x) : w.cell? (a.add 2) = some (x.promises.val) := (get?_iff.1 h) _ _ (lk57_2 x)
theorem GBatch.at_openings {w : World} {a : Addr} {x : GBatch} (h : get? GBatch w a = some x) : w.cell? (a.add 3) = some (x.openings.val) := (get?_iff.1 h) _ _ (lk57_3 x)
theorem GBatch.at_tombs {w : World} {a : Addr} {x : GBatch} (h : get? GBatch w a = some x) : w.cell? (a.add 4) = some (x.tombs.val) := (get?_iff.1 h) _ _ (lk57_4 x)
@[go_sem] theorem nl57_0 (x : GBatch) : x.enc[0]? = some (.int .i64 x.epoch) := by
  have h := (GBatch.at_epoch (get?_new (w := (default : World)) 57 x))
  simp only [Addr.add_lit, Nat.zero_add, Nat.reduceAdd, World.cell?_alloc_new, List.getElem?_toArray] at h
  exact h
@[go_sem] theorem nl57_1 (x : GBatch) : x.enc[1]? = some (.int .u64 x.time) := by
  have h := (GBatch.at_time (get?_new (w := (default : World)) 57 x))
  simp only [Addr.add_lit, Nat.zero_add, Nat.reduceAdd, World.cell?_alloc_new, List.getElem?_toArray] at h
  exact h
@[go_sem] theorem nl57_2 (x : GBatch) : x.enc[2]? = some (x.promises.val) := by
  have h := (GBatch.at_promises (get?_new (w := (default : World)) 57 x))
  simp only [Addr.add_lit, Nat.zero_add, Nat.reduceAdd, World.cell?_alloc_new, List.getElem?_toArray] at h
  exact h
@[go_sem] theorem nl57_3 (x : GBatch) : x.enc[3]? = some (x.openings.val) := by
  have h := (GBatch.at_openings (get?_new (w := (default : World)) 57 x))
  simp only [Addr.add_lit, Nat.zero_add, Nat.reduceAdd, World.cell?_alloc_new, List.getElem?_toArray] at h
  exact h
@[go_sem] theorem nl57_4 (x : GBatch) : x.enc[4]? = some (x.tombs.val) := by
  have h := (GBatch.at_tombs (get?_new (w := (default : World)) 57 x))
  simp only [Addr.add_lit, Nat.zero_add, Nat.reduceAdd, World.cell?_alloc_new, List.getElem?_toArray] at h
  exact h
@[go_sem] theorem nw57 (w : World) (n : Nat) (x : GBatch) (hn : n = w.heap.size) : get? GBatch (w.alloc (.cells (GBatch.enc x).toArray 57)) ⟨n, 0, none⟩ = some x := by
  subst hn; exact get?_new 57 x
theorem pl57 : ((Tryz.prog.fieldsOf 57).toList.mapM fun f => (Tryz.prog.info? f.type).map fun i => (f.offset, i.size)) = some [(0, 1), (1, 1), (2, 1), (3, 1), (4, 1)] := by kernel_rfl
theorem fs57_0 (x : GBatch) (v : Int) (rest : List (Nat × Value)) : Instr.fill (fun i => ([(0, 1), (1, 1), (2, 1), (3, 1), (4, 1)] : List (Nat × Nat))[i]?) x.enc.toArray ((0, (.int .i64 v)) :: rest) = Instr.fill (fun i => ([(0, 1), (1, 1), (2, 1), (3, 1), (4, 1)] : List (Nat × Nat))[i]?) ({ x with epoch := v } : GBatch).enc.toArray rest := by
  have h := fill_seg [(0, 1), (1, 1), (2, 1), (3, 1), (4, 1)] 0 0 1 rfl (([] : List Value)) ([(.int .i64 x.epoch)]) ([(.int .u64 x.time)] ++ ([(x.promises.val)] ++ ([(x.openings.val)] ++ ([(x.tombs.val)] ++ (([] : List Value)))))) ([(.int .i64 v)]) (.int .i64 v) rest (rfl) (by simp) (by simp) (by simp)
  have e1 : x.enc = (([] : List Value)) ++ ([(.int .i64 x.epoch)] ++ ([(.int .u64 x.time)] ++ ([(x.promises.val)] ++ ([(x.openings.val)] ++ ([(x.tombs.val)] ++ (([] : List Value))))))) := by simp only [GBatch.enc, List.nil_append, List.append_assoc, List.append_nil]
  have e2 : ({ x with epoch := v } : GBatch).enc = (([] : List Value)) ++ ([(.int .i64 v)] ++ ([(.int .u64 x.time)] ++ ([(x.promises.val)] ++ ([(x.openings.val)] ++ ([(x.tombs.val)] ++ (([] : List Value))))))) := by simp only [GBatch.enc, List.nil_append, List.append_assoc, List.append_nil]
  rw [e1, e2]; exact h
theorem fs57_1 (x : GBatch) (v : Int) (rest : List (Nat × Value)) : Instr.fill (fun i => ([(0, 1), (1, 1), (2, 1), (3, 1), (4, 1)] : List (Nat × Nat))[i]?) x.enc.toArray ((1, (.int .u64 v)) :: rest) = Instr.fill (fun i => ([(0, 1), (1, 1), (2, 1), (3, 1), (4, 1)] : List (Nat × Nat))[i]?) ({ x with time := v } : GBatch).enc.toArray rest := by
  have h := fill_seg [(0, 1), (1, 1), (2, 1), (3, 1), (4, 1)] 1 1 1 rfl (([] : List Value) ++ ([(.int .i64 x.epoch)])) ([(.int .u64 x.time)]) ([(x.promises.val)] ++ ([(x.openings.val)] ++ ([(x.tombs.val)] ++ (([] : List Value))))) ([(.int .u64 v)]) (.int .u64 v) rest (rfl) (by simp) (by simp) (by simp)
  have e1 : x.enc = (([] : List Value) ++ ([(.int .i64 x.epoch)])) ++ ([(.int .u64 x.time)] ++ ([(x.promises.val)] ++ ([(x.openings.val)] ++ ([(x.tombs.val)] ++ (([] : List Value)))))) := by simp only [GBatch.enc, List.nil_append, List.append_assoc, List.append_nil]
  have e2 : ({ x with time := v } : GBatch).enc = (([] : List Value) ++ ([(.int .i64 x.epoch)])) ++ ([(.int .u64 v)] ++ ([(x.promises.val)] ++ ([(x.openings.val)] ++ ([(x.tombs.val)] ++ (([] : List Value)))))) := by simp only [GBatch.enc, List.nil_append, List.append_assoc, List.append_nil]
  rw [e1, e2]; exact h
@[go_sem ↓ high] theorem xd_GBatch (ρ : Operand → Value) (dst : Option Tmp) (ps : Array (Nat × Operand)) (ty : TypeId) (pos : String) (after : Array Edge) (guard : Option (Nat × Bool)) : execOp ρ { dst, op := .build 57 ps, type := ty, pos, after, guard } = (do pure (.value (← gBuild 57 (ps.map fun (i, x) => (i, ρ x))))) := ex_build ..
@[go_sem ↓ high] theorem bd57_0 (w : World) (v0 : Int) (v1 : Int) : (gBuild 57 #[(0, (.int .i64 v0)), (1, (.int .u64 v1))]).run Tryz.prog w = .ok (GBatch.val ⟨v0, v1, default, default, default⟩) w := by
  rw [GBatch.val_eq]
  refine run_gBuild_of uu57 zr57 pl57 ?_ w
  show Instr.fill _ (GBatch.enc default).toArray [(0, (.int .i64 v0)), (1, (.int .u64 v1))] = _
  rw [fs57_0, fs57_1]; rfl

/-! ### gavel/api.Sig -/
structure GSig where
  by_ : Int
  mark : Int
deriving DecidableEq
instance : Inhabited GSig := ⟨⟨0, 0⟩⟩
def GSig.enc (x : GSig) : List Value := [(.int .i64 x.by_)] ++ ([(.int .i64 x.mark)])
theorem GSig.enc_len (x : GSig) : x.enc.length = 2 := by simp [GSig.enc]
theorem GSig.enc_one (x : GSig) : ∀ u ∈ x.enc, u.oneCell' = true := by
  intro u hu
  simp only [GSig.enc, List.mem_append, List.mem_singleton] at hu
  rcases hu with hu | hu
  · subst hu; rfl
  · subst hu; rfl
theorem GSig.enc_inj (x y : GSig) (h : x.enc = y.enc) : x = y := by
  obtain ⟨a0, a1⟩ := x
  obtain ⟨b0, b1⟩ := y
  simp only [GSig.enc] at h
  obtain ⟨p0, q0⟩ := List.append_inj h (rfl)
  have e0 : a0 = b0 := by have := List.head_eq_of_cons_eq p0; injection this
  have e1 : a1 = b1 := by have := List.head_eq_of_cons_eq q0; injection this
  rw [e0, e1]
instance : Enc GSig where
  n := 2
  enc := GSig.enc
  pos := by omega
  len := GSig.enc_len
  one := GSig.enc_one
  inj := GSig.enc_inj
@[go_sem] theorem GSig.n_eq : Enc.n GSig = 2 := rfl
@[irreducible] def GSig.val (x : GSig) : Value := .agg x.enc.toArray
theorem GSig.val_eq (x : GSig) : GSig.val x = .agg (Enc.enc x).toArray := by unfold GSig.val; rfl
theorem GSig.ext_all (x y : GSig) : x = y ↔ x.by_ = y.by_ ∧ x.mark = y.mark := by
  constructor
  · intro h; cases h; simp
  · intro h; cases x; cases y; simp_all
theorem uu39 : Tryz.prog.underlying 39 = some (.struct (Tryz.prog.fieldsOf 39)) := by kernel_rfl
theorem st39 : Tryz.prog.stoodInHeld 39 = false := by kernel_rfl
theorem fl39 : fieldTO Tryz.prog 39 = [(3, 0), (3, 1)] := by kernel_rfl
theorem nb39 : noBlank Tryz.prog 39 = true := by kernel_rfl
@[go_sem ↓ high] theorem xl_GSig (ρ : Operand → Value) (dst : Option Tmp) (x : Operand) (ty : TypeId) (pos : String) (after : Array Edge) (guard : Option (Nat × Bool)) : execOp ρ { dst, op := .load 39 x, type := ty, pos, after, guard } = (do pure (.value (← gLoad 39 (ρ x)))) := ex_load ..
@[go_sem ↓ high] theorem xs_GSig (ρ : Operand → Value) (dst : Option Tmp) (x y : Operand) (ty : TypeId) (pos : String) (after : Array Edge) (guard : Option (Nat × Bool)) : execOp ρ { dst, op := .store 39 x y, type := ty, pos, after, guard } = (do gStore 39 (ρ x) (ρ y); pure .skip) := ex_store ..
@[go_sem ↓ high] theorem xb_GSig (ρ : Operand → Value) (dst : Option Tmp) (x : Operand) (ty : TypeId) (pos : String) (after : Array Edge) (guard : Option (Nat × Bool)) : execOp ρ { dst, op := .box 39 x, type := ty, pos, after, guard } = (do pure (.value (← gBox 39 (ρ x)))) := ex_box ..
@[go_sem ↓ high] theorem xa_GSig (ρ : Operand → Value) (dst : Option Tmp) (ty : TypeId) (pos : String) (after : Array Edge) (guard : Option (Nat × Bool)) : execOp ρ { dst, op := .alloc 39, type := ty, pos, after, guard } = (do pure (.value (← gAlloc 39))) := ex_alloc ..
theorem ag39 : aggT Tryz.prog 39 = true := by kernel_rfl
theorem sz39 : sizeT Tryz.prog 39 = 2 := by kernel_rfl
section
variable (w : World)
@[go_sem ↓ high] theorem ld_GSig (a : Addr) : (gLoad 39 (.pointer (some a))).run Tryz.prog w = ofOpt ((get? GSig w a).map GSig.val) w (noLoad Tryz.prog 39 a w) := by
  unfold gLoad; exact run_loadAt_opt ag39 sz39 GSig.val GSig.val_eq
@[go_sem ↓ high] theorem st_GSig (a : Addr) (x : GSig) : (gStore 39 (.pointer (some a)) (GSig.val x)).run Tryz.prog w = okU' ((get? GSig w a).isSome && blkFree w a.block) (World.putCells w a (GSig.enc x)) (noStore Tryz.prog 39 (.pointer (some a)) (GSig.val x) w) := run_gStore_any sz39 GSig.val GSig.val_eq w a x
@[go_sem ↓ high] theorem bx_GSig (x : GSig) : (gBox 39 (GSig.val x)).run Tryz.prog w = .ok (.pointer (some ⟨w.heap.size, 0, none⟩)) (w.alloc (.cells (GSig.enc x).toArray 39)) := by
  rw [GSig.val_eq]; exact run_gBox _ w
end
theorem lk39_0 (x : GSig) : x.enc[0]? = some (.int .i64 x.by_) := by
  simp [GSig.enc, List.getElem?_append]
theorem pt39_0 (w : World) (x : GSig) : (part 3 x.enc.toArray 0).run Tryz.prog w = .ok (.int .i64 x.by_) w := run_part_one na3 us3 (lk39_0 x)
@[go_sem ↓ high] theorem fd39_0 (w : World) (x : GSig) : (gField 39 (GSig.val x) 0).run Tryz.prog w = .ok (.int .i64 x.by_) w := by
  rw [GSig.val_eq]
  exact run_gField w uu39 (by rw [fl39]; rfl) (pt39_0 w x)
theorem lk39_1 (x : GSig) : x.enc[1]? = some (.int .i64 x.mark) := by
  simp [GSig.enc, List.getElem?_append]
theorem pt39_1 (w : World) (x : GSig) : (part 3 x.enc.toArray 1).run Tryz.prog w = .ok (.int .i64 x.mark) w := run_part_one na3 us3 (lk39_1 x)
@[go_sem ↓ high] theorem fd39_1 (w : World) (x : GSig) : (gField 39 (GSig.val x) 1).run Tryz.prog w = .ok (.int .i64 x.mark) w := by
  rw [GSig.val_eq]
  exact run_gField w uu39 (by rw [fl39]; rfl) (pt39_1 w x)
@[go_sem ↓ high] theorem xf_GSig (ρ : Operand → Value) (dst : Option Tmp) (x : Operand) (i : Nat) (ty : TypeId) (pos : String) (after : Array Edge) (guard : Option (Nat × Bool)) : execOp ρ { dst, op := .field 39 x i, type := ty, pos, after, guard } = (do pure (.value (← gField 39 (ρ x) i))) := ex_field ..
theorem zr39 : zeroT Tryz.prog 39 = some (.agg (GSig.enc default).toArray) := by kernel_rfl
@[go_sem ↓ high] theorem al_GSig (w : World) : (gAlloc 39).run Tryz.prog w = .ok (.pointer (some ⟨w.heap.size, 0, none⟩)) (w.alloc (.cells (GSig.enc default).toArray 39)) := run_zero_alloc zr39 w
@[go_sem] theorem pc_GSig (w : World) (n : Nat) (x z : GSig) (hn : n = w.heap.size) : World.putCells (w.alloc (.cells (GSig.enc z).toArray 39)) ⟨n, 0, none⟩ (GSig.enc x) = w.alloc (.cells (GSig.enc x).toArray 39) := putCells_top x z hn
theorem GSig.at_by_ {w : World} {a : Addr} {x : GSig} (h : get? GSig w a = some x) : w.cell? (a.add 0) = some (.int .i64 x.by_) := (get?_iff.1 h) _ _ (lk39_0 x)
theorem GSig.at_mark {w : World} {a : Addr} {x : GSig} (h : get? GSig w a = some x) : w.cell? (a.add 1) = some (.int .i64 x.mark) := (get?_iff.1 h) _ _ (lk39_1 x)
@[go_sem] theorem nl39_0 (x : GSig) : x.enc[0]? = some (.int .i64 x.by_) := by
  have h := (GSig.at_by_ (get?_new (w := (default : World)) 39 x))
  simp only [Addr.add_lit, Nat.zero_add, Nat.reduceAdd, World.cell?_alloc_new, List.getElem?_toArray] at h
  exact h
@[go_sem] theorem nl39_1 (x : GSig) : x.enc[1]? = some (.int .i64 x.mark) := by
  have h := (GSig.at_mark (get?_new (w := (default : World)) 39 x))
  simp only [Addr.add_lit, Nat.zero_add, Nat.reduceAdd, World.cell?_alloc_new, List.getElem?_toArray] at h
  exact h
@[go_sem] theorem nw39 (w : World) (n : Nat) (x : GSig) (hn : n = w.heap.size) : get? GSig (w.alloc (.cells (GSig.enc x).toArray 39)) ⟨n, 0, none⟩ = some x := by
  subst hn; exact get?_new 39 x
theorem pl39 : ((Tryz.prog.fieldsOf 39).toList.mapM fun f => (Tryz.prog.info? f.type).map fun i => (f.offset, i.size)) = some [(0, 1), (1, 1)] := by kernel_rfl
theorem fs39_0 (x : GSig) (v : Int) (rest : List (Nat × Value)) : Instr.fill (fun i => ([(0, 1), (1, 1)] : List (Nat × Nat))[i]?) x.enc.toArray ((0, (.int .i64 v)) :: rest) = Instr.fill (fun i => ([(0, 1), (1, 1)] : List (Nat × Nat))[i]?) ({ x with by_ := v } : GSig).enc.toArray rest := by
  have h := fill_seg [(0, 1), (1, 1)] 0 0 1 rfl (([] : List Value)) ([(.int .i64 x.by_)]) ([(.int .i64 x.mark)] ++ (([] : List Value))) ([(.int .i64 v)]) (.int .i64 v) rest (rfl) (by simp) (by simp) (by simp)
  have e1 : x.enc = (([] : List Value)) ++ ([(.int .i64 x.by_)] ++ ([(.int .i64 x.mark)] ++ (([] : List Value)))) := by simp only [GSig.enc, List.nil_append, List.append_assoc, List.append_nil]
  have e2 : ({ x with by_ := v } : GSig).enc = (([] : List Value)) ++ ([(.int .i64 v)] ++ ([(.int .i64 x.mark)] ++ (([] : List Value)))) := by simp only [GSig.enc, List.nil_append, List.append_assoc, List.append_nil]
  rw [e1, e2]; exact h
theorem fs39_1 (x : GSig) (v : Int) (rest : List (Nat × Value)) : Instr.fill (fun i => ([(0, 1), (1, 1)] : List (Nat × Nat))[i]?) x.enc.toArray ((1, (.int .i64 v)) :: rest) = Instr.fill (fun i => ([(0, 1), (1, 1)] : List (Nat × Nat))[i]?) ({ x with mark := v } : GSig).enc.toArray rest := by
  have h := fill_seg [(0, 1), (1, 1)] 1 1 1 rfl (([] : List Value) ++ ([(.int .i64 x.by_)])) ([(.int .i64 x.mark)]) (([] : List Value)) ([(.int .i64 v)]) (.int .i64 v) rest (rfl) (by simp) (by simp) (by simp)
  have e1 : x.enc = (([] : List Value) ++ ([(.int .i64 x.by_)])) ++ ([(.int .i64 x.mark)] ++ (([] : List Value))) := by simp only [GSig.enc, List.nil_append, List.append_assoc, List.append_nil]
  have e2 : ({ x with mark := v } : GSig).enc = (([] : List Value) ++ ([(.int .i64 x.by_)])) ++ ([(.int .i64 v)] ++ (([] : List Value))) := by simp only [GSig.enc, List.nil_append, List.append_assoc, List.append_nil]
  rw [e1, e2]; exact h
@[go_sem ↓ high] theorem xd_GSig (ρ : Operand → Value) (dst : Option Tmp) (ps : Array (Nat × Operand)) (ty : TypeId) (pos : String) (after : Array Edge) (guard : Option (Nat × Bool)) : execOp ρ { dst, op := .build 39 ps, type := ty, pos, after, guard } = (do pure (.value (← gBuild 39 (ps.map fun (i, x) => (i, ρ x))))) := ex_build ..
@[go_sem ↓ high] theorem bd39_0 (w : World) (v0 : Int) (v1 : Int) : (gBuild 39 #[(0, (.int .i64 v0)), (1, (.int .i64 v1))]).run Tryz.prog w = .ok (GSig.val ⟨v0, v1⟩) w := by
  rw [GSig.val_eq]
  refine run_gBuild_of uu39 zr39 pl39 ?_ w
  show Instr.fill _ (GSig.enc default).toArray [(0, (.int .i64 v0)), (1, (.int .i64 v1))] = _
  rw [fs39_0, fs39_1]; rfl
theorem eq_GSig (w : World) (d : Nat) (x y : GSig) : (Op.equalIn (d + 2) 39 (GSig.val x) (GSig.val y)).run Tryz.prog w = .ok (decide (x = y)) w := by
  have q0 : ∀ a b, (Op.equalIn (d + 1) 3 (.int .i64 a) (.int .i64 b)).run Tryz.prog w = .ok (decide (a = b)) w := fun a b => by rw [run_equalIn_int w (d + 0) 3 .i64 .i64 a b uk3]; congr 1
  have q1 : ∀ a b, (Op.equalIn (d + 1) 3 (.int .i64 a) (.int .i64 b)).run Tryz.prog w = .ok (decide (a = b)) w := fun a b => by rw [run_equalIn_int w (d + 0) 3 .i64 .i64 a b uk3]; congr 1
  have h := run_equalIn_fields (d + 1) x.enc.toArray y.enc.toArray w uu39 st39 nb39
  rw [fl39] at h
  unfold GSig.val
  refine h.trans ?_
  clear h
  simp only [eqFs, Sem.run_bind, pt39_0, pt39_1, q0, q1, Result.andThen_ok, Sem.run_ite, Sem.run_pure]
  have he : decide (x = y) = (decide (x.by_ = y.by_) && (decide (x.mark = y.mark))) := by
    rw [Bool.eq_iff_iff]; simp only [Bool.and_eq_true, decide_eq_true_eq]; exact GSig.ext_all x y
  rw [he]
  generalize decide (x.by_ = y.by_) = c0; generalize decide (x.mark = y.mark) = c1
  cases c0 <;> cases c1 <;> simp
@[go_sem ↓ high] theorem xq_GSig (ρ : Operand → Value) (dst : Option Tmp) (x y : Operand) (ty yt : TypeId) (pos : String) (after : Array Edge) (guard : Option (Nat × Bool)) : execOp ρ { dst, op := .binOp .eql 39 x y yt, type := ty, pos, after, guard } = (do pure (.value (← gBin .eql 39 x y (ρ x) (ρ y)))) := ex_eql ..
@[go_sem ↓ high] theorem xn_GSig (ρ : Operand → Value) (dst : Option Tmp) (x y : Operand) (ty yt : TypeId) (pos : String) (after : Array Edge) (guard : Option (Nat × Bool)) : execOp ρ { dst, op := .binOp .neq 39 x y yt, type := ty, pos, after, guard } = (do pure (.value (← gBin .neq 39 x y (ρ x) (ρ y)))) := ex_neq ..
theorem eg_GSig : Tryz.prog.eqGuardType Tryz.prog.depth 39 = false := by kernel_rfl
@[go_sem ↓ high] theorem eql_GSig (w : World) (ox oy : Operand) (x y : GSig) : (gBin .eql 39 ox oy (GSig.val x) (GSig.val y)).run Tryz.prog w = .ok (.bool (decide (x = y))) w := by
  have h2 := eq_GSig w 9998 x y
  rw [GSig.val_eq, GSig.val_eq] at h2 ⊢
  have h := run_eqGuard_agg (P := Tryz.prog) w .eql 39 ox oy (Enc.enc x).toArray (Enc.enc y).toArray eg_GSig
  unfold gBin
  simp only [Sem.run_bind, h, Result.andThen_ok, run_eql_struct, h2]
@[go_sem ↓ high] theorem neq_GSig (w : World) (ox oy : Operand) (x y : GSig) : (gBin .neq 39 ox oy (GSig.val x) (GSig.val y)).run Tryz.prog w = .ok (.bool (!decide (x = y))) w := by
  have h2 := eq_GSig w 9998 x y
  rw [GSig.val_eq, GSig.val_eq] at h2 ⊢
  have h := run_eqGuard_agg (P := Tryz.prog) w .neq 39 ox oy (Enc.enc x).toArray (Enc.enc y).toArray eg_GSig
  unfold gBin
  simp only [Sem.run_bind, h, Result.andThen_ok, run_neq_struct, h2]

/-! ### gavel/api.Promise -/
structure GPromise where
  replica : Int
  epoch : Int
  floor : Int
  certs : Hdr
  sig : GSig
deriving DecidableEq
instance : Inhabited GPromise := ⟨⟨0, 0, 0, default, default⟩⟩
def GPromise.enc (x : GPromise) : List Value := [(.int .i64 x.replica)] ++ ([(.int .i64 x.epoch)] ++ ([(.int .u64 x.floor)] ++ ([(x.certs.val)] ++ (x.sig.enc))))
theorem GPromise.enc_len (x : GPromise) : x.enc.length = 6 := by simp [GPromise.enc, GSig.enc_len]
theorem GPromise.enc_one (x : GPromise) : ∀ u ∈ x.enc, u.oneCell' = true := by
  intro u hu
  simp only [GPromise.enc, List.mem_append, List.mem_singleton] at hu
  rcases hu with hu | hu | hu | hu | hu
  · subst hu; rfl
  · subst hu; rfl
  · subst hu; rfl
  · subst hu; rfl
  · exact Enc.one (α := GSig) _ _ hu
theorem GPromise.enc_inj (x y : GPromise) (h : x.enc = y.enc) : x = y := by
  obtain ⟨a0, a1, a2, a3, a4⟩ := x
  obtain ⟨b0, b1, b2, b3, b4⟩ := y
  simp only [GPromise.enc] at h
  obtain ⟨p0, q0⟩ := List.append_inj h (rfl)
  have e0 : a0 = b0 := by have := List.head_eq_of_cons_eq p0; injection this
  obtain ⟨p1, q1⟩ := List.append_inj q0 (rfl)
  have e1 : a1 = b1 := by have := List.head_eq_of_cons_eq p1; injection this
  obtain ⟨p2, q2⟩ := List.append_inj q1 (rfl)
  have e2 : a2 = b2 := by have := List.head_eq_of_cons_eq p2; injection this
  obtain ⟨p3, q3⟩ := List.append_inj q2 (rfl)
  have e3 : a3 = b3 := Enc.inj (α := Hdr) _ _ p3
  have e4 := Enc.inj (α := GSig) _ _ q3
  rw [e0, e1, e2, e3, e4]
instance : Enc GPromise where
  n := 6
  enc := GPromise.enc
  pos := by omega
  len := GPromise.enc_len
  one := GPromise.enc_one
  inj := GPromise.enc_inj
@[go_sem] theorem GPromise.n_eq : Enc.n GPromise = 6 := rfl
@[irreducible] def GPromise.val (x : GPromise) : Value := .agg x.enc.toArray
theorem GPromise.val_eq (x : GPromise) : GPromise.val x = .agg (Enc.enc x).toArray := by unfold GPromise.val; rfl
theorem GPromise.ext_all (x y : GPromise) : x = y ↔ x.replica = y.replica ∧ x.epoch = y.epoch ∧ x.floor = y.floor ∧ x.certs = y.certs ∧ x.sig = y.sig := by
  constructor
  · intro h; cases h; simp
  · intro h; cases x; cases y; simp_all
theorem uu52 : Tryz.prog.underlying 52 = some (.struct (Tryz.prog.fieldsOf 52)) := by kernel_rfl
theorem st52 : Tryz.prog.stoodInHeld 52 = false := by kernel_rfl
theorem fl52 : fieldTO Tryz.prog 52 = [(3, 0), (3, 1), (42, 2), (50, 3), (39, 4)] := by kernel_rfl
theorem nb52 : noBlank Tryz.prog 52 = true := by kernel_rfl
@[go_sem ↓ high] theorem xl_GPromise (ρ : Operand → Value) (dst : Option Tmp) (x : Operand) (ty : TypeId) (pos : String) (after : Array Edge) (guard : Option (Nat × Bool)) : execOp ρ { dst, op := .load 52 x, type := ty, pos, after, guard } = (do pure (.value (← gLoad 52 (ρ x)))) := ex_load ..
@[go_sem ↓ high] theorem xs_GPromise (ρ : Operand → Value) (dst : Option Tmp) (x y : Operand) (ty : TypeId) (pos : String) (after : Array Edge) (guard : Option (Nat × Bool)) : execOp ρ { dst, op := .store 52 x y, type := ty, pos, after, guard } = (do gStore 52 (ρ x) (ρ y); pure .skip) := ex_store ..
@[go_sem ↓ high] theorem xb_GPromise (ρ : Operand → Value) (dst : Option Tmp) (x : Operand) (ty : TypeId) (pos : String) (after : Array Edge) (guard : Option (Nat × Bool)) : execOp ρ { dst, op := .box 52 x, type := ty, pos, after, guard } = (do pure (.value (← gBox 52 (ρ x)))) := ex_box ..
@[go_sem ↓ high] theorem xa_GPromise (ρ : Operand → Value) (dst : Option Tmp) (ty : TypeId) (pos : String) (after : Array Edge) (guard : Option (Nat × Bool)) : execOp ρ { dst, op := .alloc 52, type := ty, pos, after, guard } = (do pure (.value (← gAlloc 52))) := ex_alloc ..
theorem ag52 : aggT Tryz.prog 52 = true := by kernel_rfl
theorem sz52 : sizeT Tryz.prog 52 = 6 := by kernel_rfl
section
variable (w : World)
@[go_sem ↓ high] theorem ld_GPromise (a : Addr) : (gLoad 52 (.pointer (some a))).run Tryz.prog w = ofOpt ((get? GPromise w a).map GPromise.val) w (noLoad Tryz.prog 52 a w) := by
  unfold gLoad; exact run_loadAt_opt ag52 sz52 GPromise.val GPromise.val_eq
@[go_sem ↓ high] theorem st_GPromise (a : Addr) (x : GPromise) : (gStore 52 (.pointer (some a)) (GPromise.val x)).run Tryz.prog w = okU' ((get? GPromise w a).isSome && blkFree w a.block) (World.putCells w a (GPromise.enc x)) (noStore Tryz.prog 52 (.pointer (some a)) (GPromise.val x) w) := run_gStore_any sz52 GPromise.val GPromise.val_eq w a x
@[go_sem ↓ high] theorem bx_GPromise (x : GPromise) : (gBox 52 (GPromise.val x)).run Tryz.prog w = .ok (.pointer (some ⟨w.heap.size, 0, none⟩)) (w.alloc (.cells (GPromise.enc x).toArray 52)) := by
  rw [GPromise.val_eq]; exact run_gBox _ w
end
theorem lk52_0 (x : GPromise) : x.enc[0]? = some (.int .i64 x.replica) := by
  simp [GPromise.enc, List.getElem?_append]
theorem pt52_0 (w : World) (x : GPromise) : (part 3 x.enc.toArray 0).run Tryz.prog w = .ok (.int .i64 x.replica) w := run_part_one na3 us3 (lk52_0 x)
@[go_sem ↓ high] theorem fd52_0 (w : World) (x : GPromise) : (gField 52 (GPromise.val x) 0).run Tryz.prog w = .ok (.int .i64 x.replica) w := by
  rw [GPromise.val_eq]
  exact run_gField w uu52 (by rw [fl52]; rfl) (pt52_0 w x)
theorem lk52_1 (x : GPromise) : x.enc[1]? = some (.int .i64 x.epoch) := by
  simp [GPromise.enc, List.getElem?_append]
theorem pt52_1 (w : World) (x : GPromise) : (part 3 x.enc.toArray 1).run Tryz.prog w = .ok (.int .i64 x.epoch) w := run_part_one na3 us3 (lk52_1 x)
@[go_sem ↓ high] theorem fd52_1 (w : World) (x : GPromise) : (gField 52 (GPromise.val x) 1).run Tryz.prog w = .ok (.int .i64 x.epoch) w := by
  rw [GPromise.val_eq]
  exact run_gField w uu52 (by rw [fl52]; rfl) (pt52_1 w x)
theorem lk52_2 (x : GPromise) : x.enc[2]? = some (.int .u64 x.floor) := by
  simp [GPromise.enc, List.getElem?_append]
theorem pt52_2 (w : World) (x : GPromise) : (part 42 x.enc.toArray 2).run Tryz.prog w = .ok (.int .u64 x.floor) w := run_part_one na42 us42 (lk52_2 x)
@[go_sem ↓ high] theorem fd52_2 (w : World) (x : GPromise) : (gField 52 (GPromise.val x) 2).run Tryz.prog w = .ok (.int .u64 x.floor) w := by
  rw [GPromise.val_eq]
  exact run_gField w uu52 (by rw [fl52]; rfl) (pt52_2 w x)
theorem lk52_3 (x : GPromise) : x.enc[3]? = some (x.certs.val) := by
  simp [GPromise.enc, List.getElem?_append]
theorem pt52_3 (w : World) (x : GPromise) : (part 50 x.enc.toArray 3).run Tryz.prog w = .ok (x.certs.val) w := run_part_one na50 us50 (lk52_3 x)
@[go_sem ↓ high] theorem fd52_3 (w : World) (x : GPromise) : (gField 52 (GPromise.val x) 3).run Tryz.prog w = .ok (x.certs.val) w := by
  rw [GPromise.val_eq]
  exact run_gField w uu52 (by rw [fl52]; rfl) (pt52_3 w x)
theorem ds52_4 (x : GPromise) : (x.enc.drop 4).take 2 = x.sig.enc := by
  unfold GPromise.enc
  simp [List.drop_append, List.drop_eq_nil_of_le] <;> (exact List.take_of_length_le (by simp [GSig.enc_len]))
theorem pt52_4 (w : World) (x : GPromise) : (part 39 x.enc.toArray 4).run Tryz.prog w = .ok (x.sig.val) w := by
  have h := run_part_agg (P := Tryz.prog) (w := w) (cs := x.enc) (ds := x.sig.enc) (off := 4) ag39 (by rw [GSig.enc_len]; exact sz39) (by simp [GSig.enc_len]) (by rw [GSig.enc_len]; exact ds52_4 x)
  rw [h, GSig.val_eq]; rfl
@[go_sem ↓ high] theorem fd52_4 (w : World) (x : GPromise) : (gField 52 (GPromise.val x) 4).run Tryz.prog w = .ok (x.sig.val) w := by
  rw [GPromise.val_eq]
  exact run_gField w uu52 (by rw [fl52]; rfl) (pt52_4 w x)
@[go_sem ↓ high] theorem xf_GPromise (ρ : Operand → Value) (dst : Option Tmp) (x : Operand) (i : Nat) (ty : TypeId) (pos : String) (after : Array Edge) (guard : Option (Nat × Bool)) : execOp ρ { dst, op := .field 52 x i, type := ty, pos, after, guard } = (do pure (.value (← gField 52 (ρ x) i))) := ex_field ..
theorem zr52 : zeroT Tryz.prog 52 = some (.agg (GPromise.enc default).toArray) := by kernel_rfl
@[go_sem ↓ high] theorem al_GPromise (w : World) : (gAlloc 52).run Tryz.prog w = .ok (.pointer (some ⟨w.heap.size, 0, none⟩)) (w.alloc (.cells (GPromise.enc default).toArray 52)) := run_zero_alloc zr52 w
@[go_sem] theorem pc_GPromise (w : World) (n : Nat) (x z : GPromise) (hn : n = w.heap.size) : World.putCells (w.alloc (.cells (GPromise.enc z).toArray 52)) ⟨n, 0, none⟩ (GPromise.enc x) = w.alloc (.cells (GPromise.enc x).toArray 52) := putCells_top x z hn
theorem GPromise.at_replica {w : World} {a : Addr} {x : GPromise} (h : get? GPromise w a = some x) : w.cell? (a.add 0) = some (.int .i64 x.replica) := (get?_iff.1 h) _ _ (lk52_0 x)
theorem GPromise.at_epoch {w : World} {a : Addr} {x : GPromise} (h : get? GPromise w a = some x) : w.cell? (a.add 1) = some (.int .i64 x.epoch) := (get?_iff.1 h) _ _ (lk52_1 x)
theorem GPromise.at_floor {w : World} {a : Addr} {x : GPromise} (h : get? GPromise w a = some x) : w.cell? (a.add 2) = some (.int .u64 x.floor) := (get?_iff.1 h) _ _ (lk52_2 x)
theorem GPromise.at_certs {w : World} {a : Addr} {x : GPromise} (h : get? GPromise w a = some x) : w.cell? (a.add 3) = some (x.certs.val) := (get?_iff.1 h) _ _ (lk52_3 x)
theorem GPromise.at_sig {w : World} {a : Addr} {x : GPromise} (h : get? GPromise w a = some x) : get? GSig w (a.add 4) = some x.sig := by
  rw [get?_iff] at h ⊢
  refine h.sub 4 fun j v hv => ?_
  have hd := ds52_4 x
  have hj : j < 2 := by have := (List.getElem?_eq_some_iff.1 hv).1; rwa [Enc.len] at this
  show x.enc[4 + j]? = some v
  rw [← List.getElem?_drop, ← List.getElem?_take_of_lt hj, hd]; exact hv
@[go_sem] theorem nl52_0 (x : GPromise) : x.enc[0]? = some (.int .i64 x.replica) := by
  have h := (GPromise.at_replica (get?_new (w := (default : World)) 52 x))
  simp only [Addr.add_lit, Nat.zero_add, Nat.reduceAdd, World.cell?_alloc_new, List.getElem?_toArray] at h
  exact h
@[go_sem] theorem nl52_1 (x : GPromise) : x.enc[1]? = some (.int .i64 x.epoch) := by
  have h := (GPromise.at_epoch (get?_new (w := (default : World)) 52 x))
  simp only [Addr.add_lit, Nat.zero_add, Nat.reduceAdd, World.cell?_alloc_new, List.getElem?_toArray] at h
  exact h
@[go_sem] theorem nl52_2 (x : GPromise) : x.enc[2]? = some (.int .u64 x.floor) := by
  have h := (GPromise.at_floor (get?_new (w := (default : World)) 52 x))
  simp only [Addr.add_lit, Nat.zero_add, Nat.reduceAdd, World.cell?_alloc_new, List.getElem?_toArray] at h
  exact h
@[go_sem] theorem nl52_3 (x : GPromise) : x.enc[3]? = some (x.certs.val) := by
  have h := (GPromise.at_certs (get?_new (w := (default : World)) 52 x))
  simp only [Addr.add_lit, Nat.zero_add, Nat.reduceAdd, World.cell?_alloc_new, List.getElem?_toArray] at h
  exact h
@[go_sem] theorem nw52_4_GSig (w : World) (n : Nat) (x : GPromise) (hn : n = w.heap.size) : get? GSig (w.alloc (.cells (GPromise.enc x).toArray 52)) ⟨n, 4, none⟩ = some x.sig := by
  subst hn
  have h := (GPromise.at_sig (get?_new (w := w) 52 x))
  simp only [Addr.add_lit, Nat.zero_add, Nat.reduceAdd] at h
  exact h
@[go_sem] theorem nl52_4 (x : GPromise) : x.enc[4]? = some (.int .i64 x.sig.by_) := by
  have h := (GSig.at_by_ (GPromise.at_sig (get?_new (w := (default : World)) 52 x)))
  simp only [Addr.add_lit, Nat.zero_add, Nat.reduceAdd, World.cell?_alloc_new, List.getElem?_toArray] at h
  exact h
@[go_sem] theorem nl52_5 (x : GPromise) : x.enc[5]? = some (.int .i64 x.sig.mark) := by
  have h := (GSig.at_mark (GPromise.at_sig (get?_new (w := (default : World)) 52 x)))
  simp only [Addr.add_lit, Nat.zero_add, Nat.reduceAdd, World.cell?_alloc_new, List.getElem?_toArray] at h
  exact h
@[go_sem] theorem nw52 (w : World) (n : Nat) (x : GPromise) (hn : n = w.heap.size) : get? GPromise (w.alloc (.cells (GPromise.enc x).toArray 52)) ⟨n, 0, none⟩ = some x := by
  subst hn; exact get?_new 52 x
theorem pl52 : ((Tryz.prog.fieldsOf 52).toList.mapM fun f => (Tryz.prog.info? f.type).map fun i => (f.offset, i.size)) = some [(0, 1), (1, 1), (2, 1), (3, 1), (4, 2)] := by kernel_rfl
theorem fs52_0 (x : GPromise) (v : Int) (rest : List (Nat × Value)) : Instr.fill (fun i => ([(0, 1), (1, 1), (2, 1), (3, 1), (4, 2)] : List (Nat × Nat))[i]?) x.enc.toArray ((0, (.int .i64 v)) :: rest) = Instr.fill (fun i => ([(0, 1), (1, 1), (2, 1), (3, 1), (4, 2)] : List (Nat × Nat))[i]?) ({ x with replica := v } : GPromise).enc.toArray rest := by
  have h := fill_seg [(0, 1), (1, 1), (2, 1), (3, 1), (4, 2)] 0 0 1 rfl (([] : List Value)) ([(.int .i64 x.replica)]) ([(.int .i64 x.epoch)] ++ ([(.int .u64 x.floor)] ++ ([(x.certs.val)] ++ (x.sig.enc ++ (([] : List Value)))))) ([(.int .i64 v)]) (.int .i64 v) rest (rfl) (by simp [GSig.enc_len]) (by simp [GSig.enc_len]) (by simp [GSig.enc_len])
  have e1 : x.enc = (([] : List Value)) ++ ([(.int .i64 x.replica)] ++ ([(.int .i64 x.epoch)] ++ ([(.int .u64 x.floor)] ++ ([(x.certs.val)] ++ (x.sig.enc ++ (([] : List Value))))))) := by simp only [GPromise.enc, List.nil_append, List.append_assoc, List.append_nil]
  have e2 : ({ x with replica := v } : GPromise).enc = (([] : List Value)) ++ ([(.int .i64 v)] ++ ([(.int .i64 x.epoch)] ++ ([(.int .u64 x.floor)] ++ ([(x.certs.val)] ++ (x.sig.enc ++ (([] : List Value))))))) := by simp only [GPromise.enc, List.nil_append, List.append_assoc, List.append_nil]
  rw [e1, e2]; exact h
theorem fs52_1 (x : GPromise) (v : Int) (rest : List (Nat × Value)) : Instr.fill (fun i => ([(0, 1), (1, 1), (2, 1), (3, 1), (4, 2)] : List (Nat × Nat))[i]?) x.enc.toArray ((1, (.int .i64 v)) :: rest) = Instr.fill (fun i => ([(0, 1), (1, 1), (2, 1), (3, 1), (4, 2)] : List (Nat × Nat))[i]?) ({ x with epoch := v } : GPromise).enc.toArray rest := by
  have h := fill_seg [(0, 1), (1, 1), (2, 1), (3, 1), (4, 2)] 1 1 1 rfl (([] : List Value) ++ ([(.int .i64 x.replica)])) ([(.int .i64 x.epoch)]) ([(.int .u64 x.floor)] ++ ([(x.certs.val)] ++ (x.sig.enc ++ (([] : List Value))))) ([(.int .i64 v)]) (.int .i64 v) rest (rfl) (by simp [GSig.enc_len]) (by simp [GSig.enc_len]) (by simp [GSig.enc_len])
  have e1 : x.enc = (([] : List Value) ++ ([(.int .i64 x.replica)])) ++ ([(.int .i64 x.epoch)] ++ ([(.int .u64 x.floor)] ++ ([(x.certs.val)] ++ (x.sig.enc ++ (([] : List Value)))))) := by simp only [GPromise.enc, List.nil_append, List.append_assoc, List.append_nil]
  have e2 : ({ x with epoch := v } : GPromise).enc = (([] : List Value) ++ ([(.int .i64 x.replica)])) ++ ([(.int .i64 v)] ++ ([(.int .u64 x.floor)] ++ ([(x.certs.val)] ++ (x.sig.enc ++ (([] : List Value)))))) := by simp only [GPromise.enc, List.nil_append, List.append_assoc, List.append_nil]
  rw [e1, e2]; exact h
theorem fs52_2 (x : GPromise) (v : Int) (rest : List (Nat × Value)) : Instr.fill (fun i => ([(0, 1), (1, 1), (2, 1), (3, 1), (4, 2)] : List (Nat × Nat))[i]?) x.enc.toArray ((2, (.int .u64 v)) :: rest) = Instr.fill (fun i => ([(0, 1), (1, 1), (2, 1), (3, 1), (4, 2)] : List (Nat × Nat))[i]?) ({ x with floor := v } : GPromise).enc.toArray rest := by
  have h := fill_seg [(0, 1), (1, 1), (2, 1), (3, 1), (4, 2)] 2 2 1 rfl (([] : List Value) ++ ([(.int .i64 x.replica)] ++ ([(.int .i64 x.epoch)]))) ([(.int .u64 x.floor)]) ([(x.certs.val)] ++ (x.sig.enc ++ (([] : List Value)))) ([(.int .u64 v)]) (.int .u64 v) rest (rfl) (by simp [GSig.enc_len]) (by simp [GSig.enc_len]) (by simp [GSig.enc_len])
  have e1 : x.enc = (([] : List Value) ++ ([(.int .i64 x.replica)] ++ ([(.int .i64 x.epoch)]))) ++ ([(.int .u64 x.floor)] ++ ([(x.certs.val)] ++ (x.sig.enc ++ (([] : List Value))))) := by simp only [GPromise.enc, List.nil_append, List.append_assoc, List.append_nil]
  have e2 : ({ x with floor := v } : GPromise).enc = (([] : List Value) ++ ([(.int .i64 x.replica)] ++ ([(.int .i64 x.epoch)]))) ++ ([(.int .u64 v)] ++ ([(x.certs.val)] ++ (x.sig.enc ++ (([] : List Value))))) := by simp only [GPromise.enc, List.nil_append, List.append_assoc, List.append_nil]
  rw [e1, e2]; exact h
@[go_sem ↓ high] theorem xd_GPromise (ρ : Operand → Value) (dst : Option Tmp) (ps : Array (Nat × Operand)) (ty : TypeId) (pos : String) (after : Array Edge) (guard : Option (Nat × Bool)) : execOp ρ { dst, op := .build 52 ps, type := ty, pos, after, guard } = (do pure (.value (← gBuild 52 (ps.map fun (i, x) => (i, ρ x))))) := ex_build ..
@[go_sem ↓ high] theorem bd52_0 (w : World) (v0 : Int) (v1 : Int) (v2 : Int) : (gBuild 52 #[(0, (.int .i64 v0)), (1, (.int .i64 v1)), (2, (.int .u64 v2))]).run Tryz.prog w = .ok (GPromise.val ⟨v0, v1, v2, default, default⟩) w := by
  rw [GPromise.val_eq]
  refine run_gBuild_of uu52 zr52 pl52 ?_ w
  show Instr.fill _ (GPromise.enc default).toArray [(0, (.int .i64 v0)), (1, (.int .i64 v1)), (2, (.int .u64 v2))] = _
  rw [fs52_0, fs52_1, fs52_2]; rfl

/-! ### gavel/api.Opening -/
structure GOpening where
  index : Int
  payload : Hdr
  nonce : GHash
deriving DecidableEq
instance : Inhabited GOpening := ⟨⟨0, default, default⟩⟩
def GOpening.enc (x : GOpening) : List Value := [(.int .i64 x.index)] ++ ([(x.payload.val)] ++ (x.nonce.enc))
theorem GOpening.enc_len (x : GOpening) : x.enc.length = 34 := by simp [GOpening.enc, GHash.enc_len]
theorem GOpening.enc_one (x : GOpening) : ∀ u ∈ x.enc, u.oneCell' = true := by
  intro u hu
  simp only [GOpening.enc, List.mem_append, List.mem_singleton] at hu
  rcases hu with hu | hu | hu
  · subst hu; rfl
  · subst hu; rfl
  · exact Enc.one (α := GHash) _ _ hu
theorem GOpening.enc_inj (x y : GOpening) (h : x.enc = y.enc) : x = y := by
  obtain ⟨a0, a1, a2⟩ := x
  obtain ⟨b0, b1, b2⟩ := y
  simp only [GOpening.enc] at h
  obtain ⟨p0, q0⟩ := List.append_inj h (rfl)
  have e0 : a0 = b0 := by have := List.head_eq_of_cons_eq p0; injection this
  obtain ⟨p1, q1⟩ := List.append_inj q0 (rfl)
  have e1 : a1 = b1 := Enc.inj (α := Hdr) _ _ p1
  have e2 := Enc.inj (α := GHash) _ _ q1
  rw [e0, e1, e2]
instance : Enc GOpening where
  n := 34
  enc := GOpening.enc
  pos := by omega
  len := GOpening.enc_len
  one := GOpening.enc_one
  inj := GOpening.enc_inj
@[go_sem] theorem GOpening.n_eq : Enc.n GOpening = 34 := rfl
@[irreducible] def GOpening.val (x : GOpening) : Value := .agg x.enc.toArray
theorem GOpening.val_eq (x : GOpening) : GOpening.val x = .agg (Enc.enc x).toArray := by unfold GOpening.val; rfl
theorem GOpening.ext_all (x y : GOpening) : x = y ↔ x.index = y.index ∧ x.payload = y.payload ∧ x.nonce = y.nonce := by
  constructor
  · intro h; cases h; simp
  · intro h; cases x; cases y; simp_all
theorem uu66 : Tryz.prog.underlying 66 = some (.struct (Tryz.prog.fieldsOf 66)) := by kernel_rfl
theorem st66 : Tryz.prog.stoodInHeld 66 = false := by kernel_rfl
theorem fl66 : fieldTO Tryz.prog 66 = [(3, 0), (64, 1), (37, 2)] := by kernel_rfl
theorem nb66 : noBlank Tryz.prog 66 = true := by kernel_rfl
@[go_sem ↓ high] theorem xl_GOpening (ρ : Operand → Value) (dst : Option Tmp) (x : Operand) (ty : TypeId) (pos : String) (after : Array Edge) (guard : Option (Nat × Bool)) : execOp ρ { dst, op := .load 66 x, type := ty, pos, after, guard } = (do pure (.value (← gLoad 66 (ρ x)))) := ex_load ..
@[go_sem ↓ high] theorem xs_GOpening (ρ : Operand → Value) (dst : Option Tmp) (x y : Operand) (ty : TypeId) (pos : String) (after : Array Edge) (guard : Option (Nat × Bool)) : execOp ρ { dst, op := .store 66 x y, type := ty, pos, after, guard } = (do gStore 66 (ρ x) (ρ y); pure .skip) := ex_store ..
@[go_sem ↓ high] theorem xb_GOpening (ρ : Operand → Value) (dst : Option Tmp) (x : Operand) (ty : TypeId) (pos : String) (after : Array Edge) (guard : Option (Nat × Bool)) : execOp ρ { dst, op := .box 66 x, type := ty, pos, after, guard } = (do pure (.value (← gBox 66 (ρ x)))) := ex_box ..
@[go_sem ↓ high] theorem xa_GOpening (ρ : Operand → Value) (dst : Option Tmp) (ty : TypeId) (pos : String) (after : Array Edge) (guard : Option (Nat × Bool)) : execOp ρ { dst, op := .alloc 66, type := ty, pos, after, guard } = (do pure (.value (← gAlloc 66))) := ex_alloc ..
theorem ag66 : aggT Tryz.prog 66 = true := by kernel_rfl
theorem sz66 : sizeT Tryz.prog 66 = 34 := by kernel_rfl
section
variable (w : World)
@[go_sem ↓ high] theorem ld_GOpening (a : Addr) : (gLoad 66 (.pointer (some a))).run Tryz.prog w = ofOpt ((get? GOpening w a).map GOpening.val) w (noLoad Tryz.prog 66 a w) := by
  unfold gLoad; exact run_loadAt_opt ag66 sz66 GOpening.val GOpening.val_eq
@[go_sem ↓ high] theorem st_GOpening (a : Addr) (x : GOpening) : (gStore 66 (.pointer (some a)) (GOpening.val x)).run Tryz.prog w = okU' ((get? GOpening w a).isSome && blkFree w a.block) (World.putCells w a (GOpening.enc x)) (noStore Tryz.prog 66 (.pointer (some a)) (GOpening.val x) w) := run_gStore_any sz66 GOpening.val GOpening.val_eq w a x
@[go_sem ↓ high] theorem bx_GOpening (x : GOpening) : (gBox 66 (GOpening.val x)).run Tryz.prog w = .ok (.pointer (some ⟨w.heap.size, 0, none⟩)) (w.alloc (.cells (GOpening.enc x).toArray 66)) := by
  rw [GOpening.val_eq]; exact run_gBox _ w
end
theorem lk66_0 (x : GOpening) : x.enc[0]? = some (.int .i64 x.index) := by
  simp [GOpening.enc, List.getElem?_append]
theorem pt66_0 (w : World) (x : GOpening) : (part 3 x.enc.toArray 0).run Tryz.prog w = .ok (.int .i64 x.index) w := run_part_one na3 us3 (lk66_0 x)
@[go_sem ↓ high] theorem fd66_0 (w : World) (x : GOpening) : (gField 66 (GOpening.val x) 0).run Tryz.prog w = .ok (.int .i64 x.index) w := by
  rw [GOpening.val_eq]
  exact run_gField w uu66 (by rw [fl66]; rfl) (pt66_0 w x)
theorem lk66_1 (x : GOpening) : x.enc[1]? = some (x.payload.val) := by
  simp [GOpening.enc, List.getElem?_append]
theorem pt66_1 (w : World) (x : GOpening) : (part 64 x.enc.toArray 1).run Tryz.prog w = .ok (x.payload.val) w := run_part_one na64 us64 (lk66_1 x)
@[go_sem ↓ high] theorem fd66_1 (w : World) (x : GOpening) : (gField 66 (GOpening.val x) 1).run Tryz.prog w = .ok (x.payload.val) w := by
  rw [GOpening.val_eq]
  exact run_gField w uu66 (by rw [fl66]; rfl) (pt66_1 w x)
theorem ds66_2 (x : GOpening) : (x.enc.drop 2).take 32 = x.nonce.enc := by
  unfold GOpening.enc
  simp [List.drop_append, List.drop_eq_nil_of_le] <;> (exact List.take_of_length_le (by simp [GHash.enc_len]))
theorem pt66_2 (w : World) (x : GOpening) : (part 37 x.enc.toArray 2).run Tryz.prog w = .ok (x.nonce.val) w := by
  have h := run_part_agg (P := Tryz.prog) (w := w) (cs := x.enc) (ds := x.nonce.enc) (off := 2) ag37 (by rw [GHash.enc_len]; exact sz37) (by simp [GHash.enc_len]) (by rw [GHash.enc_len]; exact ds66_2 x)
  rw [h, GHash.val_eq]; rfl
@[go_sem ↓ high] theorem fd66_2 (w : World) (x : GOpening) : (gField 66 (GOpening.val x) 2).run Tryz.prog w = .ok (x.nonce.val) w := by
  rw [GOpening.val_eq]
  exact run_gField w uu66 (by rw [fl66]; rfl) (pt66_2 w x)
@[go_sem ↓ high] theorem xf_GOpening (ρ : Operand → Value) (dst : Option Tmp) (x : Operand) (i : Nat) (ty : TypeId) (pos : String) (after : Array Edge) (guard : Option (Nat × Bool)) : execOp ρ { dst, op := .field 66 x i, type := ty, pos, after, guard } = (do pure (.value (← gField 66 (ρ x) i))) := ex_field ..
theorem zr66 : zeroT Tryz.prog 66 = some (.agg (GOpening.enc default).toArray) := by kernel_rfl
@[go_sem ↓ high] theorem al_GOpening (w : World) : (gAlloc 66).run Tryz.prog w = .ok (.pointer (some ⟨w.heap.size, 0, none⟩)) (w.alloc (.cells (GOpening.enc default).toArray 66)) := run_zero_alloc zr66 w
@[go_sem] theorem pc_GOpening (w : World) (n : Nat) (x z : GOpening) (hn : n = w.heap.size) : World.putCells (w.alloc (.cells (GOpening.enc z).toArray 66)) ⟨n, 0, none⟩ (GOpening.enc x) = w.alloc (.cells (GOpening.enc x).toArray 66) := putCells_top x z hn
theorem GOpening.at_index {w : World} {a : Addr} {x : GOpening} (h : get? GOpening w a = some x) : w.cell? (a.add 0) = some (.int .i64 x.index) := (get?_iff.1 h) _ _ (lk66_0 x)
theorem GOpening.at_payload {w : World} {a : Addr} {x : GOpening} (h : get? GOpening w a = some x) : w.cell? (a.add 1) = some (x.payload.val) := (get?_iff.1 h) _ _ (lk66_1 x)
theorem GOpening.at_nonce {w : World} {a : Addr} {x : GOpening} (h : get? GOpening w a = some x) : get? GHash w (a.add 2) = some x.nonce := by
  rw [get?_iff] at h ⊢
  refine h.sub 2 fun j v hv => ?_
  have hd := ds66_2 x
  have hj : j < 32 := by have := (List.getElem?_eq_some_iff.1 hv).1; rwa [Enc.len] at this
  show x.enc[2 + j]? = some v
  rw [← List.getElem?_drop, ← List.getElem?_take_of_lt hj, hd]; exact hv
@[go_sem] theorem nl66_0 (x : GOpening) : x.enc[0]? = some (.int .i64 x.index) := by
  have h := (GOpening.at_index (get?_new (w := (default : World)) 66 x))
  simp only [Addr.add_lit, Nat.zero_add, Nat.reduceAdd, World.cell?_alloc_new, List.getElem?_toArray] at h
  exact h
@[go_sem] theorem nl66_1 (x : GOpening) : x.enc[1]? = some (x.payload.val) := by
  have h := (GOpening.at_payload (get?_new (w := (default : World)) 66 x))
  simp only [Addr.add_lit, Nat.zero_add, Nat.reduceAdd, World.cell?_alloc_new, List.getElem?_toArray] at h
  exact h
@[go_sem] theorem nw66_2_GHash (w : World) (n : Nat) (x : GOpening) (hn : n = w.heap.size) : get? GHash (w.alloc (.cells (GOpening.enc x).toArray 66)) ⟨n, 2, none⟩ = some x.nonce := by
  subst hn
  have h := (GOpening.at_nonce (get?_new (w := w) 66 x))
  simp only [Addr.add_lit, Nat.zero_add, Nat.reduceAdd] at h
  exact h
@[go_sem] theorem nw66 (w : World) (n : Nat) (x : GOpening) (hn : n = w.heap.size) : get? GOpening (w.alloc (.cells (GOpening.enc x).toArray 66)) ⟨n, 0, none⟩ = some x := by
  subst hn; exact get?_new 66 x

/-! ### gavel/api.Tomb -/
structure GTomb where
  index : Int
  denies : Hdr
deriving DecidableEq
instance : Inhabited GTomb := ⟨⟨0, default⟩⟩
def GTomb.enc (x : GTomb) : List Value := [(.int .i64 x.index)] ++ ([(x.denies.val)])
theorem GTomb.enc_len (x : GTomb) : x.enc.length = 2 := by simp [GTomb.enc]
theorem GTomb.enc_one (x : GTomb) : ∀ u ∈ x.enc, u.oneCell' = true := by
  intro u hu
  simp only [GTomb.enc, List.mem_append, List.mem_singleton] at hu
  rcases hu with hu | hu
  · subst hu; rfl
  · subst hu; rfl
theorem GTomb.enc_inj (x y : GTomb) (h : x.enc = y.enc) : x = y := by
  obtain ⟨a0, a1⟩ := x
  obtain ⟨b0, b1⟩ := y
  simp only [GTomb.enc] at h
  obtain ⟨p0, q0⟩ := List.append_inj h (rfl)
  have e0 : a0 = b0 := by have := List.head_eq_of_cons_eq p0; injection this
  have e1 : a1 = b1 := Enc.inj (α := Hdr) _ _ q0
  rw [e0, e1]
instance : Enc GTomb where
  n := 2
  enc := GTomb.enc
  pos := by omega
  len := GTomb.enc_len
  one := GTomb.enc_one
  inj := GTomb.enc_inj
@[go_sem] theorem GTomb.n_eq : Enc.n GTomb = 2 := rfl
@[irreducible] def GTomb.val (x : GTomb) : Value := .agg x.enc.toArray
theorem GTomb.val_eq (x : GTomb) : GTomb.val x = .agg (Enc.enc x).toArray := by unfold GTomb.val; rfl
theorem GTomb.ext_all (x y : GTomb) : x = y ↔ x.index = y.index ∧ x.denies = y.denies := by
  constructor
  · intro h; cases h; simp
  · intro h; cases x; cases y; simp_all
theorem uu280 : Tryz.prog.underlying 280 = some (.struct (Tryz.prog.fieldsOf 280)) := by kernel_rfl
theorem st280 : Tryz.prog.stoodInHeld 280 = false := by kernel_rfl
theorem fl280 : fieldTO Tryz.prog 280 = [(3, 0), (148, 1)] := by kernel_rfl
theorem nb280 : noBlank Tryz.prog 280 = true := by kernel_rfl
@[go_sem ↓ high] theorem xl_GTomb (ρ : Operand → Value) (dst : Option Tmp) (x : Operand) (ty : TypeId) (pos : String) (after : Array Edge) (guard : Option (Nat × Bool)) : execOp ρ { dst, op := .load 280 x, type := ty, pos, after, guard } = (do pure (.value (← gLoad 280 (ρ x)))) := ex_load ..
@[go_sem ↓ high] theorem xs_GTomb (ρ : Operand → Value) (dst : Option Tmp) (x y : Operand) (ty : TypeId) (pos : String) (after : Array Edge) (guard : Option (Nat × Bool)) : execOp ρ { dst, op := .store 280 x y, type := ty, pos, after, guard } = (do gStore 280 (ρ x) (ρ y); pure .skip) := ex_store ..
@[go_sem ↓ high] theorem xb_GTomb (ρ : Operand → Value) (dst : Option Tmp) (x : Operand) (ty : TypeId) (pos : String) (after : Array Edge) (guard : Option (Nat × Bool)) : execOp ρ { dst, op := .box 280 x, type := ty, pos, after, guard } = (do pure (.value (← gBox 280 (ρ x)))) := ex_box ..
@[go_sem ↓ high] theorem xa_GTomb (ρ : Operand → Value) (dst : Option Tmp) (ty : TypeId) (pos : String) (after : Array Edge) (guard : Option (Nat × Bool)) : execOp ρ { dst, op := .alloc 280, type := ty, pos, after, guard } = (do pure (.value (← gAlloc 280))) := ex_alloc ..
theorem ag280 : aggT Tryz.prog 280 = true := by kernel_rfl
theorem sz280 : sizeT Tryz.prog 280 = 2 := by kernel_rfl
section
variable (w : World)
@[go_sem ↓ high] theorem ld_GTomb (a : Addr) : (gLoad 280 (.pointer (some a))).run Tryz.prog w = ofOpt ((get? GTomb w a).map GTomb.val) w (noLoad Tryz.prog 280 a w) := by
  unfold gLoad; exact run_loadAt_opt ag280 sz280 GTomb.val GTomb.val_eq
@[go_sem ↓ high] theorem st_GTomb (a : Addr) (x : GTomb) : (gStore 280 (.pointer (some a)) (GTomb.val x)).run Tryz.prog w = okU' ((get? GTomb w a).isSome && blkFree w a.block) (World.putCells w a (GTomb.enc x)) (noStore Tryz.prog 280 (.pointer (some a)) (GTomb.val x) w) := run_gStore_any sz280 GTomb.val GTomb.val_eq w a x
@[go_sem ↓ high] theorem bx_GTomb (x : GTomb) : (gBox 280 (GTomb.val x)).run Tryz.prog w = .ok (.pointer (some ⟨w.heap.size, 0, none⟩)) (w.alloc (.cells (GTomb.enc x).toArray 280)) := by
  rw [GTomb.val_eq]; exact run_gBox _ w
end
theorem lk280_0 (x : GTomb) : x.enc[0]? = some (.int .i64 x.index) := by
  simp [GTomb.enc, List.getElem?_append]
theorem pt280_0 (w : World) (x : GTomb) : (part 3 x.enc.toArray 0).run Tryz.prog w = .ok (.int .i64 x.index) w := run_part_one na3 us3 (lk280_0 x)
@[go_sem ↓ high] theorem fd280_0 (w : World) (x : GTomb) : (gField 280 (GTomb.val x) 0).run Tryz.prog w = .ok (.int .i64 x.index) w := by
  rw [GTomb.val_eq]
  exact run_gField w uu280 (by rw [fl280]; rfl) (pt280_0 w x)
theorem lk280_1 (x : GTomb) : x.enc[1]? = some (x.denies.val) := by
  simp [GTomb.enc, List.getElem?_append]
theorem pt280_1 (w : World) (x : GTomb) : (part 148 x.enc.toArray 1).run Tryz.prog w = .ok (x.denies.val) w := run_part_one na148 us148 (lk280_1 x)
@[go_sem ↓ high] theorem fd280_1 (w : World) (x : GTomb) : (gField 280 (GTomb.val x) 1).run Tryz.prog w = .ok (x.denies.val) w := by
  rw [GTomb.val_eq]
  exact run_gField w uu280 (by rw [fl280]; rfl) (pt280_1 w x)
@[go_sem ↓ high] theorem xf_GTomb (ρ : Operand → Value) (dst : Option Tmp) (x : Operand) (i : Nat) (ty : TypeId) (pos : String) (after : Array Edge) (guard : Option (Nat × Bool)) : execOp ρ { dst, op := .field 280 x i, type := ty, pos, after, guard } = (do pure (.value (← gField 280 (ρ x) i))) := ex_field ..
theorem zr280 : zeroT Tryz.prog 280 = some (.agg (GTomb.enc default).toArray) := by kernel_rfl
@[go_sem ↓ high] theorem al_GTomb (w : World) : (gAlloc 280).run Tryz.prog w = .ok (.pointer (some ⟨w.heap.size, 0, none⟩)) (w.alloc (.cells (GTomb.enc default).toArray 280)) := run_zero_alloc zr280 w
@[go_sem] theorem pc_GTomb (w : World) (n : Nat) (x z : GTomb) (hn : n = w.heap.size) : World.putCells (w.alloc (.cells (GTomb.enc z).toArray 280)) ⟨n, 0, none⟩ (GTomb.enc x) = w.alloc (.cells (GTomb.enc x).toArray 280) := putCells_top x z hn
theorem GTomb.at_index {w : World} {a : Addr} {x : GTomb} (h : get? GTomb w a = some x) : w.cell? (a.add 0) = some (.int .i64 x.index) := (get?_iff.1 h) _ _ (lk280_0 x)
theorem GTomb.at_denies {w : World} {a : Addr} {x : GTomb} (h : get? GTomb w a = some x) : w.cell? (a.add 1) = some (x.denies.val) := (get?_iff.1 h) _ _ (lk280_1 x)
@[go_sem] theorem nl280_0 (x : GTomb) : x.enc[0]? = some (.int .i64 x.index) := by
  have h := (GTomb.at_index (get?_new (w := (default : World)) 280 x))
  simp only [Addr.add_lit, Nat.zero_add, Nat.reduceAdd, World.cell?_alloc_new, List.getElem?_toArray] at h
  exact h
@[go_sem] theorem nl280_1 (x : GTomb) : x.enc[1]? = some (x.denies.val) := by
  have h := (GTomb.at_denies (get?_new (w := (default : World)) 280 x))
  simp only [Addr.add_lit, Nat.zero_add, Nat.reduceAdd, World.cell?_alloc_new, List.getElem?_toArray] at h
  exact h
@[go_sem] theorem nw280 (w : World) (n : Nat) (x : GTomb) (hn : n = w.heap.size) : get? GTomb (w.alloc (.cells (GTomb.enc x).toArray 280)) ⟨n, 0, none⟩ = some x := by
  subst hn; exact get?_new 280 x
theorem pl280 : ((Tryz.prog.fieldsOf 280).toList.mapM fun f => (Tryz.prog.info? f.type).map fun i => (f.offset, i.size)) = some [(0, 1), (1, 1)] := by kernel_rfl
theorem fs280_0 (x : GTomb) (v : Int) (rest : List (Nat × Value)) : Instr.fill (fun i => ([(0, 1), (1, 1)] : List (Nat × Nat))[i]?) x.enc.toArray ((0, (.int .i64 v)) :: rest) = Instr.fill (fun i => ([(0, 1), (1, 1)] : List (Nat × Nat))[i]?) ({ x with index := v } : GTomb).enc.toArray rest := by
  have h := fill_seg [(0, 1), (1, 1)] 0 0 1 rfl (([] : List Value)) ([(.int .i64 x.index)]) ([(x.denies.val)] ++ (([] : List Value))) ([(.int .i64 v)]) (.int .i64 v) rest (rfl) (by simp) (by simp) (by simp)
  have e1 : x.enc = (([] : List Value)) ++ ([(.int .i64 x.index)] ++ ([(x.denies.val)] ++ (([] : List Value)))) := by simp only [GTomb.enc, List.nil_append, List.append_assoc, List.append_nil]
  have e2 : ({ x with index := v } : GTomb).enc = (([] : List Value)) ++ ([(.int .i64 v)] ++ ([(x.denies.val)] ++ (([] : List Value)))) := by simp only [GTomb.enc, List.nil_append, List.append_assoc, List.append_nil]
  rw [e1, e2]; exact h
@[go_sem ↓ high] theorem xd_GTomb (ρ : Operand → Value) (dst : Option Tmp) (ps : Array (Nat × Operand)) (ty : TypeId) (pos : String) (after : Array Edge) (guard : Option (Nat × Bool)) : execOp ρ { dst, op := .build 280 ps, type := ty, pos, after, guard } = (do pure (.value (← gBuild 280 (ps.map fun (i, x) => (i, ρ x))))) := ex_build ..
@[go_sem ↓ high] theorem bd280_0 (w : World) (v0 : Int) : (gBuild 280 #[(0, (.int .i64 v0))]).run Tryz.prog w = .ok (GTomb.val ⟨v0, default⟩) w := by
  rw [GTomb.val_eq]
  refine run_gBuild_of uu280 zr280 pl280 ?_ w
  show Instr.fill _ (GTomb.enc default).toArray [(0, (.int .i64 v0))] = _
  rw [fs280_0]; rfl

/-! ### gavel/api.Commit -/
structure GCommit where
  name : GName
  hash : GHash
  len : Int
  sig : GSig
deriving DecidableEq
instance : Inhabited GCommit := ⟨⟨default, default, 0, default⟩⟩
def GCommit.enc (x : GCommit) : List Value := x.name.enc ++ (x.hash.enc ++ ([(.int .i64 x.len)] ++ (x.sig.enc)))
theorem GCommit.enc_len (x : GCommit) : x.enc.length = 37 := by simp [GCommit.enc, GHash.enc_len, GName.enc_len, GSig.enc_len]
theorem GCommit.enc_one (x : GCommit) : ∀ u ∈ x.enc, u.oneCell' = true := by
  intro u hu
  simp only [GCommit.enc, List.mem_append, List.mem_singleton] at hu
  rcases hu with hu | hu | hu | hu
  · exact Enc.one (α := GName) _ _ hu
  · exact Enc.one (α := GHash) _ _ hu
  · subst hu; rfl
  · exact Enc.one (α := GSig) _ _ hu
theorem GCommit.enc_inj (x y : GCommit) (h : x.enc = y.enc) : x = y := by
  obtain ⟨a0, a1, a2, a3⟩ := x
  obtain ⟨b0, b1, b2, b3⟩ := y
  simp only [GCommit.enc] at h
  obtain ⟨p0, q0⟩ := List.append_inj h (by simp [GName.enc_len])
  have e0 := Enc.inj (α := GName) _ _ p0
  obtain ⟨p1, q1⟩ := List.append_inj q0 (by simp [GHash.enc_len])
  have e1 := Enc.inj (α := GHash) _ _ p1
  obtain ⟨p2, q2⟩ := List.append_inj q1 (rfl)
  have e2 : a2 = b2 := by have := List.head_eq_of_cons_eq p2; injection this
  have e3 := Enc.inj (α := GSig) _ _ q2
  rw [e0, e1, e2, e3]
instance : Enc GCommit where
  n := 37
  enc := GCommit.enc
  pos := by omega
  len := GCommit.enc_len
  one := GCommit.enc_one
  inj := GCommit.enc_inj
@[go_sem] theorem GCommit.n_eq : Enc.n GCommit = 37 := rfl
@[irreducible] def GCommit.val (x : GCommit) : Value := .agg x.enc.toArray
theorem GCommit.val_eq (x : GCommit) : GCommit.val x = .agg (Enc.enc x).toArray := by unfold GCommit.val; rfl
theorem GCommit.ext_all (x y : GCommit) : x = y ↔ x.name = y.name ∧ x.hash = y.hash ∧ x.len = y.len ∧ x.sig = y.sig := by
  constructor
  · intro h; cases h; simp
  · intro h; cases x; cases y; simp_all
theorem uu41 : Tryz.prog.underlying 41 = some (.struct (Tryz.prog.fieldsOf 41)) := by kernel_rfl
theorem st41 : Tryz.prog.stoodInHeld 41 = false := by kernel_rfl
theorem fl41 : fieldTO Tryz.prog 41 = [(35, 0), (37, 2), (3, 34), (39, 35)] := by kernel_rfl
theorem nb41 : noBlank Tryz.prog 41 = true := by kernel_rfl
@[go_sem ↓ high] theorem xl_GCommit (ρ : Operand → Value) (dst : Option Tmp) (x : Operand) (ty : TypeId) (pos : String) (after : Array Edge) (guard : Option (Nat × Bool)) : execOp ρ { dst, op := .load 41 x, type := ty, pos, after, guard } = (do pure (.value (← gLoad 41 (ρ x)))) := ex_load ..
@[go_sem ↓ high] theorem xs_GCommit (ρ : Operand → Value) (dst : Option Tmp) (x y : Operand) (ty : TypeId) (pos : String) (after : Array Edge) (guard : Option (Nat × Bool)) : execOp ρ { dst, op := .store 41 x y, type := ty, pos, after, guard } = (do gStore 41 (ρ x) (ρ y); pure .skip) := ex_store ..
@[go_sem ↓ high] theorem xb_GCommit (ρ : Operand → Value) (dst : Option Tmp) (x : Operand) (ty : TypeId) (pos : String) (after : Array Edge) (guard : Option (Nat × Bool)) : execOp ρ { dst, op := .box 41 x, type := ty, pos, after, guard } = (do pure (.value (← gBox 41 (ρ x)))) := ex_box ..
@[go_sem ↓ high] theorem xa_GCommit (ρ : Operand → Value) (dst : Option Tmp) (ty : TypeId) (pos : String) (after : Array Edge) (guard : Option (Nat × Bool)) : execOp ρ { dst, op := .alloc 41, type := ty, pos, after, guard } = (do pure (.value (← gAlloc 41))) := ex_alloc ..
theorem ag41 : aggT Tryz.prog 41 = true := by kernel_rfl
theorem sz41 : sizeT Tryz.prog 41 = 37 := by kernel_rfl
section
variable (w : World)
@[go_sem ↓ high] theorem ld_GCommit (a : Addr) : (gLoad 41 (.pointer (some a))).run Tryz.prog w = ofOpt ((get? GCommit w a).map GCommit.val) w (noLoad Tryz.prog 41 a w) := by
  unfold gLoad; exact run_loadAt_opt ag41 sz41 GCommit.val GCommit.val_eq
@[go_sem ↓ high] theorem st_GCommit (a : Addr) (x : GCommit) : (gStore 41 (.pointer (some a)) (GCommit.val x)).run Tryz.prog w = okU' ((get? GCommit w a).isSome && blkFree w a.block) (World.putCells w a (GCommit.enc x)) (noStore Tryz.prog 41 (.pointer (some a)) (GCommit.val x) w) := run_gStore_any sz41 GCommit.val GCommit.val_eq w a x
@[go_sem ↓ high] theorem bx_GCommit (x : GCommit) : (gBox 41 (GCommit.val x)).run Tryz.prog w = .ok (.pointer (some ⟨w.heap.size, 0, none⟩)) (w.alloc (.cells (GCommit.enc x).toArray 41)) := by
  rw [GCommit.val_eq]; exact run_gBox _ w
end
theorem ds41_0 (x : GCommit) : (x.enc.drop 0).take 2 = x.name.enc := by
  unfold GCommit.enc
  simp only [List.drop_zero] <;> (rw [List.take_append_of_le_length (by simp [GName.enc_len])]; exact List.take_of_length_le (by simp [GName.enc_len]))
theorem pt41_0 (w : World) (x : GCommit) : (part 35 x.enc.toArray 0).run Tryz.prog w = .ok (x.name.val) w := by
  have h := run_part_agg (P := Tryz.prog) (w := w) (cs := x.enc) (ds := x.name.enc) (off := 0) ag35 (by rw [GName.enc_len]; exact sz35) (by simp [GName.enc_len]) (by rw [GName.enc_len]; exact ds41_0 x)
  rw [h, GName.val_eq]; rfl
@[go_sem ↓ high] theorem fd41_0 (w : World) (x : GCommit) : (gField 41 (GCommit.val x) 0).run Tryz.prog w = .ok (x.name.val) w := by
  rw [GCommit.val_eq]
  exact run_gField w uu41 (by rw [fl41]; rfl) (pt41_0 w x)
theorem ds41_1 (x : GCommit) : (x.enc.drop 2).take 32 = x.hash.enc := by
  unfold GCommit.enc
  simp [List.drop_append, List.drop_eq_nil_of_le, GName.enc_len] <;> (rw [List.take_append_of_le_length (by simp [GHash.enc_len])]; exact List.take_of_length_le (by simp [GHash.enc_len]))
theorem pt41_1 (w : World) (x : GCommit) : (part 37 x.enc.toArray 2).run Tryz.prog w = .ok (x.hash.val) w := by
  have h := run_part_agg (P := Tryz.prog) (w := w) (cs := x.enc) (ds := x.hash.enc) (off := 2) ag37 (by rw [GHash.enc_len]; exact sz37) (by simp [GHash.enc_len]) (by rw [GHash.enc_len]; exact ds41_1 x)
  rw [h, GHash.val_eq]; rfl
@[go_sem ↓ high] theorem fd41_1 (w : World) (x : GCommit) : (gField 41 (GCommit.val x) 1).run Tryz.prog w = .ok (x.hash.val) w := by
  rw [GCommit.val_eq]
  exact run_gField w uu41 (by rw [fl41]; rfl) (pt41_1 w x)
theorem lk41_2 (x : GCommit) : x.enc[34]? = some (.int .i64 x.len) := by
  simp [GCommit.enc, List.getElem?_append, GHash.enc_len, GName.enc_len]
theorem pt41_2 (w : World) (x : GCommit) : (part 3 x.enc.toArray 34).run Tryz.prog w = .ok (.int .i64 x.len) w := run_part_one na3 us3 (lk41_2 x)
@[go_sem ↓ high] theorem fd41_2 (w : World) (x : GCommit) : (gField 41 (GCommit.val x) 2).run Tryz.prog w = .ok (.int .i64 x.len) w := by
  rw [GCommit.val_eq]
  exact run_gField w uu41 (by rw [fl41]; rfl) (pt41_2 w x)
theorem ds41_3 (x : GCommit) : (x.enc.drop 35).take 2 = x.sig.enc := by
  unfold GCommit.enc
  simp [List.drop_append, List.drop_eq_nil_of_le, GHash.enc_len, GName.enc_len] <;> (exact List.take_of_length_le (by simp [GSig.enc_len]))
theorem pt41_3 (w : World) (x : GCommit) : (part 39 x.enc.toArray 35).run Tryz.prog w = .ok (x.sig.val) w := by
  have h := run_part_agg (P := Tryz.prog) (w := w) (cs := x.enc) (ds := x.sig.enc) (off := 35) ag39 (by rw [GSig.enc_len]; exact sz39) (by simp [GSig.enc_len]) (by rw [GSig.enc_len]; exact ds41_3 x)
  rw [h, GSig.val_eq]; rfl
@[go_sem ↓ high] theorem fd41_3 (w : World) (x : GCommit) : (gField 41 (GCommit.val x) 3).run Tryz.prog w = .ok (x.sig.val) w := by
  rw [GCommit.val_eq]
  exact run_gField w uu41 (by rw [fl41]; rfl) (pt41_3 w x)
@[go_sem ↓ high] theorem xf_GCommit (ρ : Operand → Value) (dst : Option Tmp) (x : Operand) (i : Nat) (ty : TypeId) (pos : String) (after : Array Edge) (guard : Option (Nat × Bool)) : execOp ρ { dst, op := .field 41 x i, type := ty, pos, after, guard } = (do pure (.value (← gField 41 (ρ x) i))) := ex_field ..
theorem zr41 : zeroT Tryz.prog 41 = some (.agg (GCommit.enc default).toArray) := by kernel_rfl
@[go_sem ↓ high] theorem al_GCommit (w : World) : (gAlloc 41).run Tryz.prog w = .ok (.pointer (some ⟨w.heap.size, 0, none⟩)) (w.alloc (.cells (GCommit.enc default).toArray 41)) := run_zero_alloc zr41 w
@[go_sem] theorem pc_GCommit (w : World) (n : Nat) (x z : GCommit) (hn : n = w.heap.size) : World.putCells (w.alloc (.cells (GCommit.enc z).toArray 41)) ⟨n, 0, none⟩ (GCommit.enc x) = w.alloc (.cells (GCommit.enc x).toArray 41) := putCells_top x z hn
theorem GCommit.at_name {w : World} {a : Addr} {x : GCommit} (h : get? GCommit w a = some x) : get? GName w (a.add 0) = some x.name := by
  rw [get?_iff] at h ⊢
  refine h.sub 0 fun j v hv => ?_
  have hd := ds41_0 x
  have hj : j < 2 := by have := (List.getElem?_eq_some_iff.1 hv).1; rwa [Enc.len] at this
  show x.enc[0 + j]? = some v
  rw [← List.getElem?_drop, ← List.getElem?_take_of_lt hj, hd]; exact hv
theorem GCommit.at_hash {w : World} {a : Addr} {x : GCommit} (h : get? GCommit w a = some x) : get? GHash w (a.add 2) = some x.hash := by
  rw [get?_iff] at h ⊢
  refine h.sub 2 fun j v hv => ?_
  have hd := ds41_1 x
  have hj : j < 32 := by have := (List.getElem?_eq_some_iff.1 hv).1; rwa [Enc.len] at this
  show x.enc[2 + j]? = some v
  rw [← List.getElem?_drop, ← List.getElem?_take_of_lt hj, hd]; exact hv
theorem GCommit.at_len {w : World} {a : Addr} {x : GCommit} (h : get? GCommit w a = some x) : w.cell? (a.add 34) = some (.int .i64 x.len) := (get?_iff.1 h) _ _ (lk41_2 x)
theorem GCommit.at_sig {w : World} {a : Addr} {x : GCommit} (h : get? GCommit w a = some x) : get? GSig w (a.add 35) = some x.sig := by
  rw [get?_iff] at h ⊢
  refine h.sub 35 fun j v hv => ?_
  have hd := ds41_3 x
  have hj : j < 2 := by have := (List.getElem?_eq_some_iff.1 hv).1; rwa [Enc.len] at this
  show x.enc[35 + j]? = some v
  rw [← List.getElem?_drop, ← List.getElem?_take_of_lt hj, hd]; exact hv
@[go_sem] theorem nw41_0_GName (w : World) (n : Nat) (x : GCommit) (hn : n = w.heap.size) : get? GName (w.alloc (.cells (GCommit.enc x).toArray 41)) ⟨n, 0, none⟩ = some x.name := by
  subst hn
  have h := (GCommit.at_name (get?_new (w := w) 41 x))
  simp only [Addr.add_lit, Nat.zero_add, Nat.reduceAdd] at h
  exact h
@[go_sem] theorem nl41_0 (x : GCommit) : x.enc[0]? = some (.int .i64 x.name.client) := by
  have h := (GName.at_client (GCommit.at_name (get?_new (w := (default : World)) 41 x)))
  simp only [Addr.add_lit, Nat.zero_add, Nat.reduceAdd, World.cell?_alloc_new, List.getElem?_toArray] at h
  exact h
@[go_sem] theorem nl41_1 (x : GCommit) : x.enc[1]? = some (.int .i64 x.name.seq) := by
  have h := (GName.at_seq (GCommit.at_name (get?_new (w := (default : World)) 41 x)))
  simp only [Addr.add_lit, Nat.zero_add, Nat.reduceAdd, World.cell?_alloc_new, List.getElem?_toArray] at h
  exact h
@[go_sem] theorem nw41_2_GHash (w : World) (n : Nat) (x : GCommit) (hn : n = w.heap.size) : get? GHash (w.alloc (.cells (GCommit.enc x).toArray 41)) ⟨n, 2, none⟩ = some x.hash := by
  subst hn
  have h := (GCommit.at_hash (get?_new (w := w) 41 x))
  simp only [Addr.add_lit, Nat.zero_add, Nat.reduceAdd] at h
  exact h
@[go_sem] theorem nl41_34 (x : GCommit) : x.enc[34]? = some (.int .i64 x.len) := by
  have h := (GCommit.at_len (get?_new (w := (default : World)) 41 x))
  simp only [Addr.add_lit, Nat.zero_add, Nat.reduceAdd, World.cell?_alloc_new, List.getElem?_toArray] at h
  exact h
@[go_sem] theorem nw41_35_GSig (w : World) (n : Nat) (x : GCommit) (hn : n = w.heap.size) : get? GSig (w.alloc (.cells (GCommit.enc x).toArray 41)) ⟨n, 35, none⟩ = some x.sig := by
  subst hn
  have h := (GCommit.at_sig (get?_new (w := w) 41 x))
  simp only [Addr.add_lit, Nat.zero_add, Nat.reduceAdd] at h
  exact h
@[go_sem] theorem nl41_35 (x : GCommit) : x.enc[35]? = some (.int .i64 x.sig.by_) := by
  have h := (GSig.at_by_ (GCommit.at_sig (get?_new (w := (default : World)) 41 x)))
  simp only [Addr.add_lit, Nat.zero_add, Nat.reduceAdd, World.cell?_alloc_new, List.getElem?_toArray] at h
  exact h
@[go_sem] theorem nl41_36 (x : GCommit) : x.enc[36]? = some (.int .i64 x.sig.mark) := by
  have h := (GSig.at_mark (GCommit.at_sig (get?_new (w := (default : World)) 41 x)))
  simp only [Addr.add_lit, Nat.zero_add, Nat.reduceAdd, World.cell?_alloc_new, List.getElem?_toArray] at h
  exact h
@[go_sem] theorem nw41 (w : World) (n : Nat) (x : GCommit) (hn : n = w.heap.size) : get? GCommit (w.alloc (.cells (GCommit.enc x).toArray 41)) ⟨n, 0, none⟩ = some x := by
  subst hn; exact get?_new 41 x
theorem eq_GCommit (w : World) (d : Nat) (x y : GCommit) : (Op.equalIn (d + 3) 41 (GCommit.val x) (GCommit.val y)).run Tryz.prog w = .ok (decide (x = y)) w := by
  have q0 : (Op.equalIn (d + 2) 35 x.name.val y.name.val).run Tryz.prog w = .ok (decide (x.name = y.name)) w := eq_GName w (d + 0) _ _
  have q1 : (Op.equalIn (d + 2) 37 x.hash.val y.hash.val).run Tryz.prog w = .ok (decide (x.hash = y.hash)) w := eq_GHash w (d + 0) _ _
  have q2 : ∀ a b, (Op.equalIn (d + 2) 3 (.int .i64 a) (.int .i64 b)).run Tryz.prog w = .ok (decide (a = b)) w := fun a b => by rw [run_equalIn_int w (d + 1) 3 .i64 .i64 a b uk3]; congr 1
  have q3 : (Op.equalIn (d + 2) 39 x.sig.val y.sig.val).run Tryz.prog w = .ok (decide (x.sig = y.sig)) w := eq_GSig w (d + 0) _ _
  have h := run_equalIn_fields (d + 2) x.enc.toArray y.enc.toArray w uu41 st41 nb41
  rw [fl41] at h
  unfold GCommit.val
  refine h.trans ?_
  clear h
  simp only [eqFs, Sem.run_bind, pt41_0, pt41_1, pt41_2, pt41_3, q0, q1, q2, q3, Result.andThen_ok, Sem.run_ite, Sem.run_pure]
  have he : decide (x = y) = (decide (x.name = y.name) && (decide (x.hash = y.hash) && (decide (x.len = y.len) && (decide (x.sig = y.sig))))) := by
    rw [Bool.eq_iff_iff]; simp only [Bool.and_eq_true, decide_eq_true_eq]; exact GCommit.ext_all x y
  rw [he]
  generalize decide (x.name = y.name) = c0; generalize decide (x.hash = y.hash) = c1; generalize decide (x.len = y.len) = c2; generalize decide (x.sig = y.sig) = c3
  cases c0 <;> cases c1 <;> cases c2 <;> cases c3 <;> simp
@[go_sem ↓ high] theorem xq_GCommit (ρ : Operand → Value) (dst : Option Tmp) (x y : Operand) (ty yt : TypeId) (pos : String) (after : Array Edge) (guard : Option (Nat × Bool)) : execOp ρ { dst, op := .binOp .eql 41 x y yt, type := ty, pos, after, guard } = (do pure (.value (← gBin .eql 41 x y (ρ x) (ρ y)))) := ex_eql ..
@[go_sem ↓ high] theorem xn_GCommit (ρ : Operand → Value) (dst : Option Tmp) (x y : Operand) (ty yt : TypeId) (pos : String) (after : Array Edge) (guard : Option (Nat × Bool)) : execOp ρ { dst, op := .binOp .neq 41 x y yt, type := ty, pos, after, guard } = (do pure (.value (← gBin .neq 41 x y (ρ x) (ρ y)))) := ex_neq ..
theorem eg_GCommit : Tryz.prog.eqGuardType Tryz.prog.depth 41 = false := by kernel_rfl
@[go_sem ↓ high] theorem eql_GCommit (w : World) (ox oy : Operand) (x y : GCommit) : (gBin .eql 41 ox oy (GCommit.val x) (GCommit.val y)).run Tryz.prog w = .ok (.bool (decide (x = y))) w := by
  have h2 := eq_GCommit w 9997 x y
  rw [GCommit.val_eq, GCommit.val_eq] at h2 ⊢
  have h := run_eqGuard_agg (P := Tryz.prog) w .eql 41 ox oy (Enc.enc x).toArray (Enc.enc y).toArray eg_GCommit
  unfold gBin
  simp only [Sem.run_bind, h, Result.andThen_ok, run_eql_struct, h2]
@[go_sem ↓ high] theorem neq_GCommit (w : World) (ox oy : Operand) (x y : GCommit) : (gBin .neq 41 ox oy (GCommit.val x) (GCommit.val y)).run Tryz.prog w = .ok (.bool (!decide (x = y))) w := by
  have h2 := eq_GCommit w 9997 x y
  rw [GCommit.val_eq, GCommit.val_eq] at h2 ⊢
  have h := run_eqGuard_agg (P := Tryz.prog) w .neq 41 ox oy (Enc.enc x).toArray (Enc.enc y).toArray eg_GCommit
  unfold gBin
  simp only [Sem.run_bind, h, Result.andThen_ok, run_neq_struct, h2]

/-! ### gavel/api.Cert -/
structure GCert where
  commit : GCommit
  stamps : Hdr
deriving DecidableEq
instance : Inhabited GCert := ⟨⟨default, default⟩⟩
def GCert.enc (x : GCert) : List Value := x.commit.enc ++ ([(x.stamps.val)])
theorem GCert.enc_len (x : GCert) : x.enc.length = 38 := by simp [GCert.enc, GCommit.enc_len]
theorem GCert.enc_one (x : GCert) : ∀ u ∈ x.enc, u.oneCell' = true := by
  intro u hu
  simp only [GCert.enc, List.mem_append, List.mem_singleton] at hu
  rcases hu with hu | hu
  · exact Enc.one (α := GCommit) _ _ hu
  · subst hu; rfl
theorem GCert.enc_inj (x y : GCert) (h : x.enc = y.enc) : x = y := by
  obtain ⟨a0, a1⟩ := x
  obtain ⟨b0, b1⟩ := y
  simp only [GCert.enc] at h
  obtain ⟨p0, q0⟩ := List.append_inj h (by simp [GCommit.enc_len])
  have e0 := Enc.inj (α := GCommit) _ _ p0
  have e1 : a1 = b1 := Enc.inj (α := Hdr) _ _ q0
  rw [e0, e1]
instance : Enc GCert where
  n := 38
  enc := GCert.enc
  pos := by omega
  len := GCert.enc_len
  one := GCert.enc_one
  inj := GCert.enc_inj
@[go_sem] theorem GCert.n_eq : Enc.n GCert = 38 := rfl
@[irreducible] def GCert.val (x : GCert) : Value := .agg x.enc.toArray
theorem GCert.val_eq (x : GCert) : GCert.val x = .agg (Enc.enc x).toArray := by unfold GCert.val; rfl
theorem GCert.ext_all (x y : GCert) : x = y ↔ x.commit = y.commit ∧ x.stamps = y.stamps := by
  constructor
  · intro h; cases h; simp
  · intro h; cases x; cases y; simp_all
theorem uu47 : Tryz.prog.underlying 47 = some (.struct (Tryz.prog.fieldsOf 47)) := by kernel_rfl
theorem st47 : Tryz.prog.stoodInHeld 47 = false := by kernel_rfl
theorem fl47 : fieldTO Tryz.prog 47 = [(41, 0), (45, 37)] := by kernel_rfl
theorem nb47 : noBlank Tryz.prog 47 = true := by kernel_rfl
@[go_sem ↓ high] theorem xl_GCert (ρ : Operand → Value) (dst : Option Tmp) (x : Operand) (ty : TypeId) (pos : String) (after : Array Edge) (guard : Option (Nat × Bool)) : execOp ρ { dst, op := .load 47 x, type := ty, pos, after, guard } = (do pure (.value (← gLoad 47 (ρ x)))) := ex_load ..
@[go_sem ↓ high] theorem xs_GCert (ρ : Operand → Value) (dst : Option Tmp) (x y : Operand) (ty : TypeId) (pos : String) (after : Array Edge) (guard : Option (Nat × Bool)) : execOp ρ { dst, op := .store 47 x y, type := ty, pos, after, guard } = (do gStore 47 (ρ x) (ρ y); pure .skip) := ex_store ..
@[go_sem ↓ high] theorem xb_GCert (ρ : Operand → Value) (dst : Option Tmp) (x : Operand) (ty : TypeId) (pos : String) (after : Array Edge) (guard : Option (Nat × Bool)) : execOp ρ { dst, op := .box 47 x, type := ty, pos, after, guard } = (do pure (.value (← gBox 47 (ρ x)))) := ex_box ..
@[go_sem ↓ high] theorem xa_GCert (ρ : Operand → Value) (dst : Option Tmp) (ty : TypeId) (pos : String) (after : Array Edge) (guard : Option (Nat × Bool)) : execOp ρ { dst, op := .alloc 47, type := ty, pos, after, guard } = (do pure (.value (← gAlloc 47))) := ex_alloc ..
theorem ag47 : aggT Tryz.prog 47 = true := by kernel_rfl
theorem sz47 : sizeT Tryz.prog 47 = 38 := by kernel_rfl
section
variable (w : World)
@[go_sem ↓ high] theorem ld_GCert (a : Addr) : (gLoad 47 (.pointer (some a))).run Tryz.prog w = ofOpt ((get? GCert w a).map GCert.val) w (noLoad Tryz.prog 47 a w) := by
  unfold gLoad; exact run_loadAt_opt ag47 sz47 GCert.val GCert.val_eq
@[go_sem ↓ high] theorem st_GCert (a : Addr) (x : GCert) : (gStore 47 (.pointer (some a)) (GCert.val x)).run Tryz.prog w = okU' ((get? GCert w a).isSome && blkFree w a.block) (World.putCells w a (GCert.enc x)) (noStore Tryz.prog 47 (.pointer (some a)) (GCert.val x) w) := run_gStore_any sz47 GCert.val GCert.val_eq w a x
@[go_sem ↓ high] theorem bx_GCert (x : GCert) : (gBox 47 (GCert.val x)).run Tryz.prog w = .ok (.pointer (some ⟨w.heap.size, 0, none⟩)) (w.alloc (.cells (GCert.enc x).toArray 47)) := by
  rw [GCert.val_eq]; exact run_gBox _ w
end
theorem ds47_0 (x : GCert) : (x.enc.drop 0).take 37 = x.commit.enc := by
  unfold GCert.enc
  simp only [List.drop_zero] <;> (rw [List.take_append_of_le_length (by simp [GCommit.enc_len])]; exact List.take_of_length_le (by simp [GCommit.enc_len]))
theorem pt47_0 (w : World) (x : GCert) : (part 41 x.enc.toArray 0).run Tryz.prog w = .ok (x.commit.val) w := by
  have h := run_part_agg (P := Tryz.prog) (w := w) (cs := x.enc) (ds := x.commit.enc) (off := 0) ag41 (by rw [GCommit.enc_len]; exact sz41) (by simp [GCommit.enc_len]) (by rw [GCommit.enc_len]; exact ds47_0 x)
  rw [h, GCommit.val_eq]; rfl
@[go_sem ↓ high] theorem fd47_0 (w : World) (x : GCert) : (gField 47 (GCert.val x) 0).run Tryz.prog w = .ok (x.commit.val) w := by
  rw [GCert.val_eq]
  exact run_gField w uu47 (by rw [fl47]; rfl) (pt47_0 w x)
theorem lk47_1 (x : GCert) : x.enc[37]? = some (x.stamps.val) := by
  simp [GCert.enc, List.getElem?_append, GCommit.enc_len]
theorem pt47_1 (w : World) (x : GCert) : (part 45 x.enc.toArray 37).run Tryz.prog w = .ok (x.stamps.val) w := run_part_one na45 us45 (lk47_1 x)
@[go_sem ↓ high] theorem fd47_1 (w : World) (x : GCert) : (gField 47 (GCert.val x) 1).run Tryz.prog w = .ok (x.stamps.val) w := by
  rw [GCert.val_eq]
  exact run_gField w uu47 (by rw [fl47]; rfl) (pt47_1 w x)
@[go_sem ↓ high] theorem xf_GCert (ρ : Operand → Value) (dst : Option Tmp) (x : Operand) (i : Nat) (ty : TypeId) (pos : String) (after : Array Edge) (guard : Option (Nat × Bool)) : execOp ρ { dst, op := .field 47 x i, type := ty, pos, after, guard } = (do pure (.value (← gField 47 (ρ x) i))) := ex_field ..
theorem zr47 : zeroT Tryz.prog 47 = some (.agg (GCert.enc default).toArray) := by kernel_rfl
@[go_sem ↓ high] theorem al_GCert (w : World) : (gAlloc 47).run Tryz.prog w = .ok (.pointer (some ⟨w.heap.size, 0, none⟩)) (w.alloc (.cells (GCert.enc default).toArray 47)) := run_zero_alloc zr47 w
@[go_sem] theorem pc_GCert (w : World) (n : Nat) (x z : GCert) (hn : n = w.heap.size) : World.putCells (w.alloc (.cells (GCert.enc z).toArray 47)) ⟨n, 0, none⟩ (GCert.enc x) = w.alloc (.cells (GCert.enc x).toArray 47) := putCells_top x z hn
theorem GCert.at_commit {w : World} {a : Addr} {x : GCert} (h : get? GCert w a = some x) : get? GCommit w (a.add 0) = some x.commit := by
  rw [get?_iff] at h ⊢
  refine h.sub 0 fun j v hv => ?_
  have hd := ds47_0 x
  have hj : j < 37 := by have := (List.getElem?_eq_some_iff.1 hv).1; rwa [Enc.len] at this
  show x.enc[0 + j]? = some v
  rw [← List.getElem?_drop, ← List.getElem?_take_of_lt hj, hd]; exact hv
theorem GCert.at_stamps {w : World} {a : Addr} {x : GCert} (h : get? GCert w a = some x) : w.cell? (a.add 37) = some (x.stamps.val) := (get?_iff.1 h) _ _ (lk47_1 x)
@[go_sem] theorem nw47_0_GCommit (w : World) (n : Nat) (x : GCert) (hn : n = w.heap.size) : get? GCommit (w.alloc (.cells (GCert.enc x).toArray 47)) ⟨n, 0, none⟩ = some x.commit := by
  subst hn
  have h := (GCert.at_commit (get?_new (w := w) 47 x))
  simp only [Addr.add_lit, Nat.zero_add, Nat.reduceAdd] at h
  exact h
@[go_sem] theorem nw47_0_GName (w : World) (n : Nat) (x : GCert) (hn : n = w.heap.size) : get? GName (w.alloc (.cells (GCert.enc x).toArray 47)) ⟨n, 0, none⟩ = some x.commit.name := by
  subst hn
  have h := (GCommit.at_name (GCert.at_commit (get?_new (w := w) 47 x)))
  simp only [Addr.add_lit, Nat.zero_add, Nat.reduceAdd] at h
  exact h
@[go_sem] theorem nl47_0 (x : GCert) : x.enc[0]? = some (.int .i64 x.commit.name.client) := by
  have h := (GName.at_client (GCommit.at_name (GCert.at_commit (get?_new (w := (default : World)) 47 x))))
  simp only [Addr.add_lit, Nat.zero_add, Nat.reduceAdd, World.cell?_alloc_new, List.getElem?_toArray] at h
  exact h
@[go_sem] theorem nl47_1 (x : GCert) : x.enc[1]? = some (.int .i64 x.commit.name.seq) := by
  have h := (GName.at_seq (GCommit.at_name (GCert.at_commit (get?_new (w := (default : World)) 47 x))))
  simp only [Addr.add_lit, Nat.zero_add, Nat.reduceAdd, World.cell?_alloc_new, List.getElem?_toArray] at h
  exact h
@[go_sem] theorem nw47_2_GHash (w : World) (n : Nat) (x : GCert) (hn : n = w.heap.size) : get? GHash (w.alloc (.cells (GCert.enc x).toArray 47)) ⟨n, 2, none⟩ = some x.commit.hash := by
  subst hn
  have h := (GCommit.at_hash (GCert.at_commit (get?_new (w := w) 47 x)))
  simp only [Addr.add_lit, Nat.zero_add, Nat.reduceAdd] at h
  exact h
@[go_sem] theorem nl47_34 (x : GCert) : x.enc[34]? = some (.int .i64 x.commit.len) := by
  have h := (GCommit.at_len (GCert.at_commit (get?_new (w := (default : World)) 47 x)))
  simp only [Addr.add_lit, Nat.zero_add, Nat.reduceAdd, World.cell?_alloc_new, List.getElem?_toArray] at h
  exact h
@[go_sem] theorem nw47_35_GSig (w : World) (n : Nat) (x : GCert) (hn : n = w.heap.size) : get? GSig (w.alloc (.cells (GCert.enc x).toArray 47)) ⟨n, 35, none⟩ = some x.commit.sig := by
  subst hn
  have h := (GCommit.at_sig (GCert.at_commit (get?_new (w := w) 47 x)))
  simp only [Addr.add_lit, Nat.zero_add, Nat.reduceAdd] at h
  exact h
@[go_sem] theorem nl47_35 (x : GCert) : x.enc[35]? = some (.int .i64 x.commit.sig.by_) := by
  have h := (GSig.at_by_ (GCommit.at_sig (GCert.at_commit (get?_new (w := (default : World)) 47 x))))
  simp only [Addr.add_lit, Nat.zero_add, Nat.reduceAdd, World.cell?_alloc_new, List.getElem?_toArray] at h
  exact h
@[go_sem] theorem nl47_36 (x : GCert) : x.enc[36]? = some (.int .i64 x.commit.sig.mark) := by
  have h := (GSig.at_mark (GCommit.at_sig (GCert.at_commit (get?_new (w := (default : World)) 47 x))))
  simp only [Addr.add_lit, Nat.zero_add, Nat.reduceAdd, World.cell?_alloc_new, List.getElem?_toArray] at h
  exact h
@[go_sem] theorem nl47_37 (x : GCert) : x.enc[37]? = some (x.stamps.val) := by
  have h := (GCert.at_stamps (get?_new (w := (default : World)) 47 x))
  simp only [Addr.add_lit, Nat.zero_add, Nat.reduceAdd, World.cell?_alloc_new, List.getElem?_toArray] at h
  exact h
@[go_sem] theorem nw47 (w : World) (n : Nat) (x : GCert) (hn : n = w.heap.size) : get? GCert (w.alloc (.cells (GCert.enc x).toArray 47)) ⟨n, 0, none⟩ = some x := by
  subst hn; exact get?_new 47 x

/-! ### gavel/api.Stamp -/
structure GStamp where
  replica : Int
  name : GName
  hash : GHash
  time : Int
  sig : GSig
deriving DecidableEq
instance : Inhabited GStamp := ⟨⟨0, default, default, 0, default⟩⟩
def GStamp.enc (x : GStamp) : List Value := [(.int .i64 x.replica)] ++ (x.name.enc ++ (x.hash.enc ++ ([(.int .u64 x.time)] ++ (x.sig.enc))))
theorem GStamp.enc_len (x : GStamp) : x.enc.length = 38 := by simp [GStamp.enc, GHash.enc_len, GName.enc_len, GSig.enc_len]
theorem GStamp.enc_one (x : GStamp) : ∀ u ∈ x.enc, u.oneCell' = true := by
  intro u hu
  simp only [GStamp.enc, List.mem_append, List.mem_singleton] at hu
  rcases hu with hu | hu | hu | hu | hu
  · subst hu; rfl
  · exact Enc.one (α := GName) _ _ hu
  · exact Enc.one (α := GHash) _ _ hu
  · subst hu; rfl
  · exact Enc.one (α := GSig) _ _ hu
theorem GStamp.enc_inj (x y : GStamp) (h : x.enc = y.enc) : x = y := by
  obtain ⟨a0, a1, a2, a3, a4⟩ := x
  obtain ⟨b0, b1, b2, b3, b4⟩ := y
  simp only [GStamp.enc] at h
  obtain ⟨p0, q0⟩ := List.append_inj h (rfl)
  have e0 : a0 = b0 := by have := List.head_eq_of_cons_eq p0; injection this
  obtain ⟨p1, q1⟩ := List.append_inj q0 (by simp [GName.enc_len])
  have e1 := Enc.inj (α := GName) _ _ p1
  obtain ⟨p2, q2⟩ := List.append_inj q1 (by simp [GHash.enc_len])
  have e2 := Enc.inj (α := GHash) _ _ p2
  obtain ⟨p3, q3⟩ := List.append_inj q2 (rfl)
  have e3 : a3 = b3 := by have := List.head_eq_of_cons_eq p3; injection this
  have e4 := Enc.inj (α := GSig) _ _ q3
  rw [e0, e1, e2, e3, e4]
instance : Enc GStamp where
  n := 38
  enc := GStamp.enc
  pos := by omega
  len := GStamp.enc_len
  one := GStamp.enc_one
  inj := GStamp.enc_inj
@[go_sem] theorem GStamp.n_eq : Enc.n GStamp = 38 := rfl
@[irreducible] def GStamp.val (x : GStamp) : Value := .agg x.enc.toArray
theorem GStamp.val_eq (x : GStamp) : GStamp.val x = .agg (Enc.enc x).toArray := by unfold GStamp.val; rfl
theorem GStamp.ext_all (x y : GStamp) : x = y ↔ x.replica = y.replica ∧ x.name = y.name ∧ x.hash = y.hash ∧ x.time = y.time ∧ x.sig = y.sig := by
  constructor
  · intro h; cases h; simp
  · intro h; cases x; cases y; simp_all
theorem uu44 : Tryz.prog.underlying 44 = some (.struct (Tryz.prog.fieldsOf 44)) := by kernel_rfl
theorem st44 : Tryz.prog.stoodInHeld 44 = false := by kernel_rfl
theorem fl44 : fieldTO Tryz.prog 44 = [(3, 0), (35, 1), (37, 3), (42, 35), (39, 36)] := by kernel_rfl
theorem nb44 : noBlank Tryz.prog 44 = true := by kernel_rfl
@[go_sem ↓ high] theorem xl_GStamp (ρ : Operand → Value) (dst : Option Tmp) (x : Operand) (ty : TypeId) (pos : String) (after : Array Edge) (guard : Option (Nat × Bool)) : execOp ρ { dst, op := .load 44 x, type := ty, pos, after, guard } = (do pure (.value (← gLoad 44 (ρ x)))) := ex_load ..
@[go_sem ↓ high] theorem xs_GStamp (ρ : Operand → Value) (dst : Option Tmp) (x y : Operand) (ty : TypeId) (pos : String) (after : Array Edge) (guard : Option (Nat × Bool)) : execOp ρ { dst, op := .store 44 x y, type := ty, pos, after, guard } = (do gStore 44 (ρ x) (ρ y); pure .skip) := ex_store ..
@[go_sem ↓ high] theorem xb_GStamp (ρ : Operand → Value) (dst : Option Tmp) (x : Operand) (ty : TypeId) (pos : String) (after : Array Edge) (guard : Option (Nat × Bool)) : execOp ρ { dst, op := .box 44 x, type := ty, pos, after, guard } = (do pure (.value (← gBox 44 (ρ x)))) := ex_box ..
@[go_sem ↓ high] theorem xa_GStamp (ρ : Operand → Value) (dst : Option Tmp) (ty : TypeId) (pos : String) (after : Array Edge) (guard : Option (Nat × Bool)) : execOp ρ { dst, op := .alloc 44, type := ty, pos, after, guard } = (do pure (.value (← gAlloc 44))) := ex_alloc ..
theorem ag44 : aggT Tryz.prog 44 = true := by kernel_rfl
theorem sz44 : sizeT Tryz.prog 44 = 38 := by kernel_rfl
section
variable (w : World)
@[go_sem ↓ high] theorem ld_GStamp (a : Addr) : (gLoad 44 (.pointer (some a))).run Tryz.prog w = ofOpt ((get? GStamp w a).map GStamp.val) w (noLoad Tryz.prog 44 a w) := by
  unfold gLoad; exact run_loadAt_opt ag44 sz44 GStamp.val GStamp.val_eq
@[go_sem ↓ high] theorem st_GStamp (a : Addr) (x : GStamp) : (gStore 44 (.pointer (some a)) (GStamp.val x)).run Tryz.prog w = okU' ((get? GStamp w a).isSome && blkFree w a.block) (World.putCells w a (GStamp.enc x)) (noStore Tryz.prog 44 (.pointer (some a)) (GStamp.val x) w) := run_gStore_any sz44 GStamp.val GStamp.val_eq w a x
@[go_sem ↓ high] theorem bx_GStamp (x : GStamp) : (gBox 44 (GStamp.val x)).run Tryz.prog w = .ok (.pointer (some ⟨w.heap.size, 0, none⟩)) (w.alloc (.cells (GStamp.enc x).toArray 44)) := by
  rw [GStamp.val_eq]; exact run_gBox _ w
end
theorem lk44_0 (x : GStamp) : x.enc[0]? = some (.int .i64 x.replica) := by
  simp [GStamp.enc, List.getElem?_append]
theorem pt44_0 (w : World) (x : GStamp) : (part 3 x.enc.toArray 0).run Tryz.prog w = .ok (.int .i64 x.replica) w := run_part_one na3 us3 (lk44_0 x)
@[go_sem ↓ high] theorem fd44_0 (w : World) (x : GStamp) : (gField 44 (GStamp.val x) 0).run Tryz.prog w = .ok (.int .i64 x.replica) w := by
  rw [GStamp.val_eq]
  exact run_gField w uu44 (by rw [fl44]; rfl) (pt44_0 w x)
theorem ds44_1 (x : GStamp) : (x.enc.drop 1).take 2 = x.name.enc := by
  unfold GStamp.enc
  simp [List.drop_append, List.drop_eq_nil_of_le] <;> (rw [List.take_append_of_le_length (by simp [GName.enc_len])]; exact List.take_of_length_le (by simp [GName.enc_len]))
theorem pt44_1 (w : World) (x : GStamp) : (part 35 x.enc.toArray 1).run Tryz.prog w = .ok (x.name.val) w := by
  have h := run_part_agg (P := Tryz.prog) (w := w) (cs := x.enc) (ds := x.name.enc) (off := 1) ag35 (by rw [GName.enc_len]; exact sz35) (by simp [GName.enc_len]) (by rw [GName.enc_len]; exact ds44_1 x)
  rw [h, GName.val_eq]; rfl
@[go_sem ↓ high] theorem fd44_1 (w : World) (x : GStamp) : (gField 44 (GStamp.val x) 1).run Tryz.prog w = .ok (x.name.val) w := by
  rw [GStamp.val_eq]
  exact run_gField w uu44 (by rw [fl44]; rfl) (pt44_1 w x)
theorem ds44_2 (x : GStamp) : (x.enc.drop 3).take 32 = x.hash.enc := by
  unfold GStamp.enc
  simp [List.drop_append, List.drop_eq_nil_of_le, GName.enc_len] <;> (rw [List.take_append_of_le_length (by simp [GHash.enc_len])]; exact List.take_of_length_le (by simp [GHash.enc_len]))
theorem pt44_2 (w : World) (x : GStamp) : (part 37 x.enc.toArray 3).run Tryz.prog w = .ok (x.hash.val) w := by
  have h := run_part_agg (P := Tryz.prog) (w := w) (cs := x.enc) (ds := x.hash.enc) (off := 3) ag37 (by rw [GHash.enc_len]; exact sz37) (by simp [GHash.enc_len]) (by rw [GHash.enc_len]; exact ds44_2 x)
  rw [h, GHash.val_eq]; rfl
@[go_sem ↓ high] theorem fd44_2 (w : World) (x : GStamp) : (gField 44 (GStamp.val x) 2).run Tryz.prog w = .ok (x.hash.val) w := by
  rw [GStamp.val_eq]
  exact run_gField w uu44 (by rw [fl44]; rfl) (pt44_2 w x)
theorem lk44_3 (x : GStamp) : x.enc[35]? = some (.int .u64 x.time) := by
  simp [GStamp.enc, List.getElem?_append, GHash.enc_len, GName.enc_len]
theorem pt44_3 (w : World) (x : GStamp) : (part 42 x.enc.toArray 35).run Tryz.prog w = .ok (.int .u64 x.time) w := run_part_one na42 us42 (lk44_3 x)
@[go_sem ↓ high] theorem fd44_3 (w : World) (x : GStamp) : (gField 44 (GStamp.val x) 3).run Tryz.prog w = .ok (.int .u64 x.time) w := by
  rw [GStamp.val_eq]
  exact run_gField w uu44 (by rw [fl44]; rfl) (pt44_3 w x)
theorem ds44_4 (x : GStamp) : (x.enc.drop 36).take 2 = x.sig.enc := by
  unfold GStamp.enc
  simp [List.drop_append, List.drop_eq_nil_of_le, GHash.enc_len, GName.enc_len] <;> (exact List.take_of_length_le (by simp [GSig.enc_len]))
theorem pt44_4 (w : World) (x : GStamp) : (part 39 x.enc.toArray 36).run Tryz.prog w = .ok (x.sig.val) w := by
  have h := run_part_agg (P := Tryz.prog) (w := w) (cs := x.enc) (ds := x.sig.enc) (off := 36) ag39 (by rw [GSig.enc_len]; exact sz39) (by simp [GSig.enc_len]) (by rw [GSig.enc_len]; exact ds44_4 x)
  rw [h, GSig.val_eq]; rfl
@[go_sem ↓ high] theorem fd44_4 (w : World) (x : GStamp) : (gField 44 (GStamp.val x) 4).run Tryz.prog w = .ok (x.sig.val) w := by
  rw [GStamp.val_eq]
  exact run_gField w uu44 (by rw [fl44]; rfl) (pt44_4 w x)
@[go_sem ↓ high] theorem xf_GStamp (ρ : Operand → Value) (dst : Option Tmp) (x : Operand) (i : Nat) (ty : TypeId) (pos : String) (after : Array Edge) (guard : Option (Nat × Bool)) : execOp ρ { dst, op := .field 44 x i, type := ty, pos, after, guard } = (do pure (.value (← gField 44 (ρ x) i))) := ex_field ..
theorem zr44 : zeroT Tryz.prog 44 = some (.agg (GStamp.enc default).toArray) := by kernel_rfl
@[go_sem ↓ high] theorem al_GStamp (w : World) : (gAlloc 44).run Tryz.prog w = .ok (.pointer (some ⟨w.heap.size, 0, none⟩)) (w.alloc (.cells (GStamp.enc default).toArray 44)) := run_zero_alloc zr44 w
@[go_sem] theorem pc_GStamp (w : World) (n : Nat) (x z : GStamp) (hn : n = w.heap.size) : World.putCells (w.alloc (.cells (GStamp.enc z).toArray 44)) ⟨n, 0, none⟩ (GStamp.enc x) = w.alloc (.cells (GStamp.enc x).toArray 44) := putCells_top x z hn
theorem GStamp.at_replica {w : World} {a : Addr} {x : GStamp} (h : get? GStamp w a = some x) : w.cell? (a.add 0) = some (.int .i64 x.replica) := (get?_iff.1 h) _ _ (lk44_0 x)
theorem GStamp.at_name {w : World} {a : Addr} {x : GStamp} (h : get? GStamp w a = some x) : get? GName w (a.add 1) = some x.name := by
  rw [get?_iff] at h ⊢
  refine h.sub 1 fun j v hv => ?_
  have hd := ds44_1 x
  have hj : j < 2 := by have := (List.getElem?_eq_some_iff.1 hv).1; rwa [Enc.len] at this
  show x.enc[1 + j]? = some v
  rw [← List.getElem?_drop, ← List.getElem?_take_of_lt hj, hd]; exact hv
theorem GStamp.at_hash {w : World} {a : Addr} {x : GStamp} (h : get? GStamp w a = some x) : get? GHash w (a.add 3) = some x.hash := by
  rw [get?_iff] at h ⊢
  refine h.sub 3 fun j v hv => ?_
  have hd := ds44_2 x
  have hj : j < 32 := by have := (List.getElem?_eq_some_iff.1 hv).1; rwa [Enc.len] at this
  show x.enc[3 + j]? = some v
  rw [← List.getElem?_drop, ← List.getElem?_take_of_lt hj, hd]; exact hv
theorem GStamp.at_time {w : World} {a : Addr} {x : GStamp} (h : get? GStamp w a = some x) : w.cell? (a.add 35) = some (.int .u64 x.time) := (get?_iff.1 h) _ _ (lk44_3 x)
theorem GStamp.at_sig {w : World} {a : Addr} {x : GStamp} (h : get? GStamp w a = some x) : get? GSig w (a.add 36) = some x.sig := by
  rw [get?_iff] at h ⊢
  refine h.sub 36 fun j v hv => ?_
  have hd := ds44_4 x
  have hj : j < 2 := by have := (List.getElem?_eq_some_iff.1 hv).1; rwa [Enc.len] at this
  show x.enc[36 + j]? = some v
  rw [← List.getElem?_drop, ← List.getElem?_take_of_lt hj, hd]; exact hv
@[go_sem] theorem nl44_0 (x : GStamp) : x.enc[0]? = some (.int .i64 x.replica) := by
  have h := (GStamp.at_replica (get?_new (w := (default : World)) 44 x))
  simp only [Addr.add_lit, Nat.zero_add, Nat.reduceAdd, World.cell?_alloc_new, List.getElem?_toArray] at h
  exact h
@[go_sem] theorem nw44_1_GName (w : World) (n : Nat) (x : GStamp) (hn : n = w.heap.size) : get? GName (w.alloc (.cells (GStamp.enc x).toArray 44)) ⟨n, 1, none⟩ = some x.name := by
  subst hn
  have h := (GStamp.at_name (get?_new (w := w) 44 x))
  simp only [Addr.add_lit, Nat.zero_add, Nat.reduceAdd] at h
  exact h
@[go_sem] theorem nl44_1 (x : GStamp) : x.enc[1]? = some (.int .i64 x.name.client) := by
  have h := (GName.at_client (GStamp.at_name (get?_new (w := (default : World)) 44 x)))
  simp only [Addr.add_lit, Nat.zero_add, Nat.reduceAdd, World.cell?_alloc_new, List.getElem?_toArray] at h
  exact h
@[go_sem] theorem nl44_2 (x : GStamp) : x.enc[2]? = some (.int .i64 x.name.seq) := by
  have h := (GName.at_seq (GStamp.at_name (get?_new (w := (default : World)) 44 x)))
  simp only [Addr.add_lit, Nat.zero_add, Nat.reduceAdd, World.cell?_alloc_new, List.getElem?_toArray] at h
  exact h
@[go_sem] theorem nw44_3_GHash (w : World) (n : Nat) (x : GStamp) (hn : n = w.heap.size) : get? GHash (w.alloc (.cells (GStamp.enc x).toArray 44)) ⟨n, 3, none⟩ = some x.hash := by
  subst hn
  have h := (GStamp.at_hash (get?_new (w := w) 44 x))
  simp only [Addr.add_lit, Nat.zero_add, Nat.reduceAdd] at h
  exact h
@[go_sem] theorem nl44_35 (x : GStamp) : x.enc[35]? = some (.int .u64 x.time) := by
  have h := (GStamp.at_time (get?_new (w := (default : World)) 44 x))
  simp only [Addr.add_lit, Nat.zero_add, Nat.reduceAdd, World.cell?_alloc_new, List.getElem?_toArray] at h
  exact h
@[go_sem] theorem nw44_36_GSig (w : World) (n : Nat) (x : GStamp) (hn : n = w.heap.size) : get? GSig (w.alloc (.cells (GStamp.enc x).toArray 44)) ⟨n, 36, none⟩ = some x.sig := by
  subst hn
  have h := (GStamp.at_sig (get?_new (w := w) 44 x))
  simp only [Addr.add_lit, Nat.zero_add, Nat.reduceAdd] at h
  exact h
@[go_sem] theorem nl44_36 (x : GStamp) : x.enc[36]? = some (.int .i64 x.sig.by_) := by
  have h := (GSig.at_by_ (GStamp.at_sig (get?_new (w := (default : World)) 44 x)))
  simp only [Addr.add_lit, Nat.zero_add, Nat.reduceAdd, World.cell?_alloc_new, List.getElem?_toArray] at h
  exact h
@[go_sem] theorem nl44_37 (x : GStamp) : x.enc[37]? = some (.int .i64 x.sig.mark) := by
  have h := (GSig.at_mark (GStamp.at_sig (get?_new (w := (default : World)) 44 x)))
  simp only [Addr.add_lit, Nat.zero_add, Nat.reduceAdd, World.cell?_alloc_new, List.getElem?_toArray] at h
  exact h
@[go_sem] theorem nw44 (w : World) (n : Nat) (x : GStamp) (hn : n = w.heap.size) : get? GStamp (w.alloc (.cells (GStamp.enc x).toArray 44)) ⟨n, 0, none⟩ = some x := by
  subst hn; exact get?_new 44 x
theorem pl44 : ((Tryz.prog.fieldsOf 44).toList.mapM fun f => (Tryz.prog.info? f.type).map fun i => (f.offset, i.size)) = some [(0, 1), (1, 2), (3, 32), (35, 1), (36, 2)] := by kernel_rfl
theorem fs44_0 (x : GStamp) (v : Int) (rest : List (Nat × Value)) : Instr.fill (fun i => ([(0, 1), (1, 2), (3, 32), (35, 1), (36, 2)] : List (Nat × Nat))[i]?) x.enc.toArray ((0, (.int .i64 v)) :: rest) = Instr.fill (fun i => ([(0, 1), (1, 2), (3, 32), (35, 1), (36, 2)] : List (Nat × Nat))[i]?) ({ x with replica := v } : GStamp).enc.toArray rest := by
  have h := fill_seg [(0, 1), (1, 2), (3, 32), (35, 1), (36, 2)] 0 0 1 rfl (([] : List Value)) ([(.int .i64 x.replica)]) (x.name.enc ++ (x.hash.enc ++ ([(.int .u64 x.time)] ++ (x.sig.enc ++ (([] : List Value)))))) ([(.int .i64 v)]) (.int .i64 v) rest (rfl) (by simp [GHash.enc_len, GName.enc_len, GSig.enc_len]) (by simp [GHash.enc_len, GName.enc_len, GSig.enc_len]) (by simp [GHash.enc_len, GName.enc_len, GSig.enc_len])
  have e1 : x.enc = (([] : List Value)) ++ ([(.int .i64 x.replica)] ++ (x.name.enc ++ (x.hash.enc ++ ([(.int .u64 x.time)] ++ (x.sig.enc ++ (([] : List Value))))))) := by simp only [GStamp.enc, List.nil_append, List.append_assoc, List.append_nil]
  have e2 : ({ x with replica := v } : GStamp).enc = (([] : List Value)) ++ ([(.int .i64 v)] ++ (x.name.enc ++ (x.hash.enc ++ ([(.int .u64 x.time)] ++ (x.sig.enc ++ (([] : List Value))))))) := by simp only [GStamp.enc, List.nil_append, List.append_assoc, List.append_nil]
  rw [e1, e2]; exact h
theorem fs44_1 (x : GStamp) (v : GName) (rest : List (Nat × Value)) : Instr.fill (fun i => ([(0, 1), (1, 2), (3, 32), (35, 1), (36, 2)] : List (Nat × Nat))[i]?) x.enc.toArray ((1, (v.val)) :: rest) = Instr.fill (fun i => ([(0, 1), (1, 2), (3, 32), (35, 1), (36, 2)] : List (Nat × Nat))[i]?) ({ x with name := v } : GStamp).enc.toArray rest := by
  have h := fill_seg [(0, 1), (1, 2), (3, 32), (35, 1), (36, 2)] 1 1 2 rfl (([] : List Value) ++ ([(.int .i64 x.replica)])) (x.name.enc) (x.hash.enc ++ ([(.int .u64 x.time)] ++ (x.sig.enc ++ (([] : List Value))))) (v.enc) (v.val) rest (by rw [GName.val_eq]; rfl) (by simp [GHash.enc_len, GName.enc_len, GSig.enc_len]) (by simp [GHash.enc_len, GName.enc_len, GSig.enc_len]) (by simp [GHash.enc_len, GName.enc_len, GSig.enc_len])
  have e1 : x.enc = (([] : List Value) ++ ([(.int .i64 x.replica)])) ++ (x.name.enc ++ (x.hash.enc ++ ([(.int .u64 x.time)] ++ (x.sig.enc ++ (([] : List Value)))))) := by simp only [GStamp.enc, List.nil_append, List.append_assoc, List.append_nil]
  have e2 : ({ x with name := v } : GStamp).enc = (([] : List Value) ++ ([(.int .i64 x.replica)])) ++ (v.enc ++ (x.hash.enc ++ ([(.int .u64 x.time)] ++ (x.sig.enc ++ (([] : List Value)))))) := by simp only [GStamp.enc, List.nil_append, List.append_assoc, List.append_nil]
  rw [e1, e2]; exact h
theorem fs44_2 (x : GStamp) (v : GHash) (rest : List (Nat × Value)) : Instr.fill (fun i => ([(0, 1), (1, 2), (3, 32), (35, 1), (36, 2)] : List (Nat × Nat))[i]?) x.enc.toArray ((2, (v.val)) :: rest) = Instr.fill (fun i => ([(0, 1), (1, 2), (3, 32), (35, 1), (36, 2)] : List (Nat × Nat))[i]?) ({ x with hash := v } : GStamp).enc.toArray rest := by
  have h := fill_seg [(0, 1), (1, 2), (3, 32), (35, 1), (36, 2)] 2 3 32 rfl (([] : List Value) ++ ([(.int .i64 x.replica)] ++ (x.name.enc))) (x.hash.enc) ([(.int .u64 x.time)] ++ (x.sig.enc ++ (([] : List Value)))) (v.enc) (v.val) rest (by rw [GHash.val_eq]; rfl) (by simp [GHash.enc_len, GName.enc_len, GSig.enc_len]) (by simp [GHash.enc_len, GName.enc_len, GSig.enc_len]) (by simp [GHash.enc_len, GName.enc_len, GSig.enc_len])
  have e1 : x.enc = (([] : List Value) ++ ([(.int .i64 x.replica)] ++ (x.name.enc))) ++ (x.hash.enc ++ ([(.int .u64 x.time)] ++ (x.sig.enc ++ (([] : List Value))))) := by simp only [GStamp.enc, List.nil_append, List.append_assoc, List.append_nil]
  have e2 : ({ x with hash := v } : GStamp).enc = (([] : List Value) ++ ([(.int .i64 x.replica)] ++ (x.name.enc))) ++ (v.enc ++ ([(.int .u64 x.time)] ++ (x.sig.enc ++ (([] : List Value))))) := by simp only [GStamp.enc, List.nil_append, List.append_assoc, List.append_nil]
  rw [e1, e2]; exact h
theorem fs44_3 (x : GStamp) (v : Int) (rest : List (Nat × Value)) : Instr.fill (fun i => ([(0, 1), (1, 2), (3, 32), (35, 1), (36, 2)] : List (Nat × Nat))[i]?) x.enc.toArray ((3, (.int .u64 v)) :: rest) = Instr.fill (fun i => ([(0, 1), (1, 2), (3, 32), (35, 1), (36, 2)] : List (Nat × Nat))[i]?) ({ x with time := v } : GStamp).enc.toArray rest := by
  have h := fill_seg [(0, 1), (1, 2), (3, 32), (35, 1), (36, 2)] 3 35 1 rfl (([] : List Value) ++ ([(.int .i64 x.replica)] ++ (x.name.enc ++ (x.hash.enc)))) ([(.int .u64 x.time)]) (x.sig.enc ++ (([] : List Value))) ([(.int .u64 v)]) (.int .u64 v) rest (rfl) (by simp [GHash.enc_len, GName.enc_len, GSig.enc_len]) (by simp [GHash.enc_len, GName.enc_len, GSig.enc_len]) (by simp [GHash.enc_len, GName.enc_len, GSig.enc_len])
  have e1 : x.enc = (([] : List Value) ++ ([(.int .i64 x.replica)] ++ (x.name.enc ++ (x.hash.enc)))) ++ ([(.int .u64 x.time)] ++ (x.sig.enc ++ (([] : List Value)))) := by simp only [GStamp.enc, List.nil_append, List.append_assoc, List.append_nil]
  have e2 : ({ x with time := v } : GStamp).enc = (([] : List Value) ++ ([(.int .i64 x.replica)] ++ (x.name.enc ++ (x.hash.enc)))) ++ ([(.int .u64 v)] ++ (x.sig.enc ++ (([] : List Value)))) := by simp only [GStamp.enc, List.nil_append, List.append_assoc, List.append_nil]
  rw [e1, e2]; exact h
@[go_sem ↓ high] theorem xd_GStamp (ρ : Operand → Value) (dst : Option Tmp) (ps : Array (Nat × Operand)) (ty : TypeId) (pos : String) (after : Array Edge) (guard : Option (Nat × Bool)) : execOp ρ { dst, op := .build 44 ps, type := ty, pos, after, guard } = (do pure (.value (← gBuild 44 (ps.map fun (i, x) => (i, ρ x))))) := ex_build ..
@[go_sem ↓ high] theorem bd44_0 (w : World) (v0 : Int) (v1 : GName) (v2 : GHash) (v3 : Int) : (gBuild 44 #[(0, (.int .i64 v0)), (1, (v1.val)), (2, (v2.val)), (3, (.int .u64 v3))]).run Tryz.prog w = .ok (GStamp.val ⟨v0, v1, v2, v3, default⟩) w := by
  rw [GStamp.val_eq]
  refine run_gBuild_of uu44 zr44 pl44 ?_ w
  show Instr.fill _ (GStamp.enc default).toArray [(0, (.int .i64 v0)), (1, (v1.val)), (2, (v2.val)), (3, (.int .u64 v3))] = _
  rw [fs44_0, fs44_1, fs44_2, fs44_3]; rfl
theorem eq_GStamp (w : World) (d : Nat) (x y : GStamp) : (Op.equalIn (d + 3) 44 (GStamp.val x) (GStamp.val y)).run Tryz.prog w = .ok (decide (x = y)) w := by
  have q0 : ∀ a b, (Op.equalIn (d + 2) 3 (.int .i64 a) (.int .i64 b)).run Tryz.prog w = .ok (decide (a = b)) w := fun a b => by rw [run_equalIn_int w (d + 1) 3 .i64 .i64 a b uk3]; congr 1
  have q1 : (Op.equalIn (d + 2) 35 x.name.val y.name.val).run Tryz.prog w = .ok (decide (x.name = y.name)) w := eq_GName w (d + 0) _ _
  have q2 : (Op.equalIn (d + 2) 37 x.hash.val y.hash.val).run Tryz.prog w = .ok (decide (x.hash = y.hash)) w := eq_GHash w (d + 0) _ _
  have q3 : ∀ a b, (Op.equalIn (d + 2) 42 (.int .u64 a) (.int .u64 b)).run Tryz.prog w = .ok (decide (a = b)) w := fun a b => by rw [run_equalIn_int w (d + 1) 42 .u64 .u64 a b uk42]; congr 1
  have q4 : (Op.equalIn (d + 2) 39 x.sig.val y.sig.val).run Tryz.prog w = .ok (decide (x.sig = y.sig)) w := eq_GSig w (d + 0) _ _
  have h := run_equalIn_fields (d + 2) x.enc.toArray y.enc.toArray w uu44 st44 nb44
  rw [fl44] at h
  unfold GStamp.val
  refine h.trans ?_
  clear h
  simp only [eqFs, Sem.run_bind, pt44_0, pt44_1, pt44_2, pt44_3, pt44_4, q0, q1, q2, q3, q4, Result.andThen_ok, Sem.run_ite, Sem.run_pure]
  have he : decide (x = y) = (decide (x.replica = y.replica) && (decide (x.name = y.name) && (decide (x.hash = y.hash) && (decide (x.time = y.time) && (decide (x.sig = y.sig)))))) := by
    rw [Bool.eq_iff_iff]; simp only [Bool.and_eq_true, decide_eq_true_eq]; exact GStamp.ext_all x y
  rw [he]
  generalize decide (x.replica = y.replica) = c0; generalize decide (x.name = y.name) = c1; generalize decide (x.hash = y.hash) = c2; generalize decide (x.time = y.time) = c3; generalize decide (x.sig = y.sig) = c4
  cases c0 <;> cases c1 <;> cases c2 <;> cases c3 <;> cases c4 <;> simp
@[go_sem ↓ high] theorem xq_GStamp (ρ : Operand → Value) (dst : Option Tmp) (x y : Operand) (ty yt : TypeId) (pos : String) (after : Array Edge) (guard : Option (Nat × Bool)) : execOp ρ { dst, op := .binOp .eql 44 x y yt, type := ty, pos, after, guard } = (do pure (.value (← gBin .eql 44 x y (ρ x) (ρ y)))) := ex_eql ..
@[go_sem ↓ high] theorem xn_GStamp (ρ : Operand → Value) (dst : Option Tmp) (x y : Operand) (ty yt : TypeId) (pos : String) (after : Array Edge) (guard : Option (Nat × Bool)) : execOp ρ { dst, op := .binOp .neq 44 x y yt, type := ty, pos, after, guard } = (do pure (.value (← gBin .neq 44 x y (ρ x) (ρ y)))) := ex_neq ..
theorem eg_GStamp : Tryz.prog.eqGuardType Tryz.prog.depth 44 = false := by kernel_rfl
@[go_sem ↓ high] theorem eql_GStamp (w : World) (ox oy : Operand) (x y : GStamp) : (gBin .eql 44 ox oy (GStamp.val x) (GStamp.val y)).run Tryz.prog w = .ok (.bool (decide (x = y))) w := by
  have h2 := eq_GStamp w 9997 x y
  rw [GStamp.val_eq, GStamp.val_eq] at h2 ⊢
  have h := run_eqGuard_agg (P := Tryz.prog) w .eql 44 ox oy (Enc.enc x).toArray (Enc.enc y).toArray eg_GStamp
  unfold gBin
  simp only [Sem.run_bind, h, Result.andThen_ok, run_eql_struct, h2]
@[go_sem ↓ high] theorem neq_GStamp (w : World) (ox oy : Operand) (x y : GStamp) : (gBin .neq 44 ox oy (GStamp.val x) (GStamp.val y)).run Tryz.prog w = .ok (.bool (!decide (x = y))) w := by
  have h2 := eq_GStamp w 9997 x y
  rw [GStamp.val_eq, GStamp.val_eq] at h2 ⊢
  have h := run_eqGuard_agg (P := Tryz.prog) w .neq 44 ox oy (Enc.enc x).toArray (Enc.enc y).toArray eg_GStamp
  unfold gBin
  simp only [Sem.run_bind, h, Result.andThen_ok, run_neq_struct, h2]

/-! ### gavel/api.Deny -/
structure GDeny where
  replica : Int
  index : Int
  sig : GSig
deriving DecidableEq
instance : Inhabited GDeny := ⟨⟨0, 0, default⟩⟩
def GDeny.enc (x : GDeny) : List Value := [(.int .i64 x.replica)] ++ ([(.int .i64 x.index)] ++ (x.sig.enc))
theorem GDeny.enc_len (x : GDeny) : x.enc.length = 4 := by simp [GDeny.enc, GSig.enc_len]
theorem GDeny.enc_one (x : GDeny) : ∀ u ∈ x.enc, u.oneCell' = true := by
  intro u hu
  simp only [GDeny.enc, List.mem_append, List.mem_singleton] at hu
  rcases hu with hu | hu | hu
  · subst hu; rfl
  · subst hu; rfl
  · exact Enc.one (α := GSig) _ _ hu
theorem GDeny.enc_inj (x y : GDeny) (h : x.enc = y.enc) : x = y := by
  obtain ⟨a0, a1, a2⟩ := x
  obtain ⟨b0, b1, b2⟩ := y
  simp only [GDeny.enc] at h
  obtain ⟨p0, q0⟩ := List.append_inj h (rfl)
  have e0 : a0 = b0 := by have := List.head_eq_of_cons_eq p0; injection this
  obtain ⟨p1, q1⟩ := List.append_inj q0 (rfl)
  have e1 : a1 = b1 := by have := List.head_eq_of_cons_eq p1; injection this
  have e2 := Enc.inj (α := GSig) _ _ q1
  rw [e0, e1, e2]
instance : Enc GDeny where
  n := 4
  enc := GDeny.enc
  pos := by omega
  len := GDeny.enc_len
  one := GDeny.enc_one
  inj := GDeny.enc_inj
@[go_sem] theorem GDeny.n_eq : Enc.n GDeny = 4 := rfl
@[irreducible] def GDeny.val (x : GDeny) : Value := .agg x.enc.toArray
theorem GDeny.val_eq (x : GDeny) : GDeny.val x = .agg (Enc.enc x).toArray := by unfold GDeny.val; rfl
theorem GDeny.ext_all (x y : GDeny) : x = y ↔ x.replica = y.replica ∧ x.index = y.index ∧ x.sig = y.sig := by
  constructor
  · intro h; cases h; simp
  · intro h; cases x; cases y; simp_all
theorem uu68 : Tryz.prog.underlying 68 = some (.struct (Tryz.prog.fieldsOf 68)) := by kernel_rfl
theorem st68 : Tryz.prog.stoodInHeld 68 = false := by kernel_rfl
theorem fl68 : fieldTO Tryz.prog 68 = [(3, 0), (3, 1), (39, 2)] := by kernel_rfl
theorem nb68 : noBlank Tryz.prog 68 = true := by kernel_rfl
@[go_sem ↓ high] theorem xl_GDeny (ρ : Operand → Value) (dst : Option Tmp) (x : Operand) (ty : TypeId) (pos : String) (after : Array Edge) (guard : Option (Nat × Bool)) : execOp ρ { dst, op := .load 68 x, type := ty, pos, after, guard } = (do pure (.value (← gLoad 68 (ρ x)))) := ex_load ..
@[go_sem ↓ high] theorem xs_GDeny (ρ : Operand → Value) (dst : Option Tmp) (x y : Operand) (ty : TypeId) (pos : String) (after : Array Edge) (guard : Option (Nat × Bool)) : execOp ρ { dst, op := .store 68 x y, type := ty, pos, after, guard } = (do gStore 68 (ρ x) (ρ y); pure .skip) := ex_store ..
@[go_sem ↓ high] theorem xb_GDeny (ρ : Operand → Value) (dst : Option Tmp) (x : Operand) (ty : TypeId) (pos : String) (after : Array Edge) (guard : Option (Nat × Bool)) : execOp ρ { dst, op := .box 68 x, type := ty, pos, after, guard } = (do pure (.value (← gBox 68 (ρ x)))) := ex_box ..
@[go_sem ↓ high] theorem xa_GDeny (ρ : Operand → Value) (dst : Option Tmp) (ty : TypeId) (pos : String) (after : Array Edge) (guard : Option (Nat × Bool)) : execOp ρ { dst, op := .alloc 68, type := ty, pos, after, guard } = (do pure (.value (← gAlloc 68))) := ex_alloc ..
theorem ag68 : aggT Tryz.prog 68 = true := by kernel_rfl
theorem sz68 : sizeT Tryz.prog 68 = 4 := by kernel_rfl
section
variable (w : World)
@[go_sem ↓ high] theorem ld_GDeny (a : Addr) : (gLoad 68 (.pointer (some a))).run Tryz.prog w = ofOpt ((get? GDeny w a).map GDeny.val) w (noLoad Tryz.prog 68 a w) := by
  unfold gLoad; exact run_loadAt_opt ag68 sz68 GDeny.val GDeny.val_eq
@[go_sem ↓ high] theorem st_GDeny (a : Addr) (x : GDeny) : (gStore 68 (.pointer (some a)) (GDeny.val x)).run Tryz.prog w = okU' ((get? GDeny w a).isSome && blkFree w a.block) (World.putCells w a (GDeny.enc x)) (noStore Tryz.prog 68 (.pointer (some a)) (GDeny.val x) w) := run_gStore_any sz68 GDeny.val GDeny.val_eq w a x
@[go_sem ↓ high] theorem bx_GDeny (x : GDeny) : (gBox 68 (GDeny.val x)).run Tryz.prog w = .ok (.pointer (some ⟨w.heap.size, 0, none⟩)) (w.alloc (.cells (GDeny.enc x).toArray 68)) := by
  rw [GDeny.val_eq]; exact run_gBox _ w
end
theorem lk68_0 (x : GDeny) : x.enc[0]? = some (.int .i64 x.replica) := by
  simp [GDeny.enc, List.getElem?_append]
theorem pt68_0 (w : World) (x : GDeny) : (part 3 x.enc.toArray 0).run Tryz.prog w = .ok (.int .i64 x.replica) w := run_part_one na3 us3 (lk68_0 x)
@[go_sem ↓ high] theorem fd68_0 (w : World) (x : GDeny) : (gField 68 (GDeny.val x) 0).run Tryz.prog w = .ok (.int .i64 x.replica) w := by
  rw [GDeny.val_eq]
  exact run_gField w uu68 (by rw [fl68]; rfl) (pt68_0 w x)
theorem lk68_1 (x : GDeny) : x.enc[1]? = some (.int .i64 x.index) := by
  simp [GDeny.enc, List.getElem?_append]
theorem pt68_1 (w : World) (x : GDeny) : (part 3 x.enc.toArray 1).run Tryz.prog w = .ok (.int .i64 x.index) w := run_part_one na3 us3 (lk68_1 x)
@[go_sem ↓ high] theorem fd68_1 (w : World) (x : GDeny) : (gField 68 (GDeny.val x) 1).run Tryz.prog w = .ok (.int .i64 x.index) w := by
  rw [GDeny.val_eq]
  exact run_gField w uu68 (by rw [fl68]; rfl) (pt68_1 w x)
theorem ds68_2 (x : GDeny) : (x.enc.drop 2).take 2 = x.sig.enc := by
  unfold GDeny.enc
  simp [List.drop_append, List.drop_eq_nil_of_le] <;> (exact List.take_of_length_le (by simp [GSig.enc_len]))
theorem pt68_2 (w : World) (x : GDeny) : (part 39 x.enc.toArray 2).run Tryz.prog w = .ok (x.sig.val) w := by
  have h := run_part_agg (P := Tryz.prog) (w := w) (cs := x.enc) (ds := x.sig.enc) (off := 2) ag39 (by rw [GSig.enc_len]; exact sz39) (by simp [GSig.enc_len]) (by rw [GSig.enc_len]; exact ds68_2 x)
  rw [h, GSig.val_eq]; rfl
@[go_sem ↓ high] theorem fd68_2 (w : World) (x : GDeny) : (gField 68 (GDeny.val x) 2).run Tryz.prog w = .ok (x.sig.val) w := by
  rw [GDeny.val_eq]
  exact run_gField w uu68 (by rw [fl68]; rfl) (pt68_2 w x)
@[go_sem ↓ high] theorem xf_GDeny (ρ : Operand → Value) (dst : Option Tmp) (x : Operand) (i : Nat) (ty : TypeId) (pos : String) (after : Array Edge) (guard : Option (Nat × Bool)) : execOp ρ { dst, op := .field 68 x i, type := ty, pos, after, guard } = (do pure (.value (← gField 68 (ρ x) i))) := ex_field ..
theorem zr68 : zeroT Tryz.prog 68 = some (.agg (GDeny.enc default).toArray) := by kernel_rfl
@[go_sem ↓ high] theorem al_GDeny (w : World) : (gAlloc 68).run Tryz.prog w = .ok (.pointer (some ⟨w.heap.size, 0, none⟩)) (w.alloc (.cells (GDeny.enc default).toArray 68)) := run_zero_alloc zr68 w
@[go_sem] theorem pc_GDeny (w : World) (n : Nat) (x z : GDeny) (hn : n = w.heap.size) : World.putCells (w.alloc (.cells (GDeny.enc z).toArray 68)) ⟨n, 0, none⟩ (GDeny.enc x) = w.alloc (.cells (GDeny.enc x).toArray 68) := putCells_top x z hn
theorem GDeny.at_replica {w : World} {a : Addr} {x : GDeny} (h : get? GDeny w a = some x) : w.cell? (a.add 0) = some (.int .i64 x.replica) := (get?_iff.1 h) _ _ (lk68_0 x)
theorem GDeny.at_index {w : World} {a : Addr} {x : GDeny} (h : get? GDeny w a = some x) : w.cell? (a.add 1) = some (.int .i64 x.index) := (get?_iff.1 h) _ _ (lk68_1 x)
theorem GDeny.at_sig {w : World} {a : Addr} {x : GDeny} (h : get? GDeny w a = some x) : get? GSig w (a.add 2) = some x.sig := by
  rw [get?_iff] at h ⊢
  refine h.sub 2 fun j v hv => ?_
  have hd := ds68_2 x
  have hj : j < 2 := by have := (List.getElem?_eq_some_iff.1 hv).1; rwa [Enc.len] at this
  show x.enc[2 + j]? = some v
  rw [← List.getElem?_drop, ← List.getElem?_take_of_lt hj, hd]; exact hv
@[go_sem] theorem nl68_0 (x : GDeny) : x.enc[0]? = some (.int .i64 x.replica) := by
  have h := (GDeny.at_replica (get?_new (w := (default : World)) 68 x))
  simp only [Addr.add_lit, Nat.zero_add, Nat.reduceAdd, World.cell?_alloc_new, List.getElem?_toArray] at h
  exact h
@[go_sem] theorem nl68_1 (x : GDeny) : x.enc[1]? = some (.int .i64 x.index) := by
  have h := (GDeny.at_index (get?_new (w := (default : World)) 68 x))
  simp only [Addr.add_lit, Nat.zero_add, Nat.reduceAdd, World.cell?_alloc_new, List.getElem?_toArray] at h
  exact h
@[go_sem] theorem nw68_2_GSig (w : World) (n : Nat) (x : GDeny) (hn : n = w.heap.size) : get? GSig (w.alloc (.cells (GDeny.enc x).toArray 68)) ⟨n, 2, none⟩ = some x.sig := by
  subst hn
  have h := (GDeny.at_sig (get?_new (w := w) 68 x))
  simp only [Addr.add_lit, Nat.zero_add, Nat.reduceAdd] at h
  exact h
@[go_sem] theorem nl68_2 (x : GDeny) : x.enc[2]? = some (.int .i64 x.sig.by_) := by
  have h := (GSig.at_by_ (GDeny.at_sig (get?_new (w := (default : World)) 68 x)))
  simp only [Addr.add_lit, Nat.zero_add, Nat.reduceAdd, World.cell?_alloc_new, List.getElem?_toArray] at h
  exact h
@[go_sem] theorem nl68_3 (x : GDeny) : x.enc[3]? = some (.int .i64 x.sig.mark) := by
  have h := (GSig.at_mark (GDeny.at_sig (get?_new (w := (default : World)) 68 x)))
  simp only [Addr.add_lit, Nat.zero_add, Nat.reduceAdd, World.cell?_alloc_new, List.getElem?_toArray] at h
  exact h
@[go_sem] theorem nw68 (w : World) (n : Nat) (x : GDeny) (hn : n = w.heap.size) : get? GDeny (w.alloc (.cells (GDeny.enc x).toArray 68)) ⟨n, 0, none⟩ = some x := by
  subst hn; exact get?_new 68 x
theorem pl68 : ((Tryz.prog.fieldsOf 68).toList.mapM fun f => (Tryz.prog.info? f.type).map fun i => (f.offset, i.size)) = some [(0, 1), (1, 1), (2, 2)] := by kernel_rfl
theorem fs68_0 (x : GDeny) (v : Int) (rest : List (Nat × Value)) : Instr.fill (fun i => ([(0, 1), (1, 1), (2, 2)] : List (Nat × Nat))[i]?) x.enc.toArray ((0, (.int .i64 v)) :: rest) = Instr.fill (fun i => ([(0, 1), (1, 1), (2, 2)] : List (Nat × Nat))[i]?) ({ x with replica := v } : GDeny).enc.toArray rest := by
  have h := fill_seg [(0, 1), (1, 1), (2, 2)] 0 0 1 rfl (([] : List Value)) ([(.int .i64 x.replica)]) ([(.int .i64 x.index)] ++ (x.sig.enc ++ (([] : List Value)))) ([(.int .i64 v)]) (.int .i64 v) rest (rfl) (by simp [GSig.enc_len]) (by simp [GSig.enc_len]) (by simp [GSig.enc_len])
  have e1 : x.enc = (([] : List Value)) ++ ([(.int .i64 x.replica)] ++ ([(.int .i64 x.index)] ++ (x.sig.enc ++ (([] : List Value))))) := by simp only [GDeny.enc, List.nil_append, List.append_assoc, List.append_nil]
  have e2 : ({ x with replica := v } : GDeny).enc = (([] : List Value)) ++ ([(.int .i64 v)] ++ ([(.int .i64 x.index)] ++ (x.sig.enc ++ (([] : List Value))))) := by simp only [GDeny.enc, List.nil_append, List.append_assoc, List.append_nil]
  rw [e1, e2]; exact h
theorem fs68_1 (x : GDeny) (v : Int) (rest : List (Nat × Value)) : Instr.fill (fun i => ([(0, 1), (1, 1), (2, 2)] : List (Nat × Nat))[i]?) x.enc.toArray ((1, (.int .i64 v)) :: rest) = Instr.fill (fun i => ([(0, 1), (1, 1), (2, 2)] : List (Nat × Nat))[i]?) ({ x with index := v } : GDeny).enc.toArray rest := by
  have h := fill_seg [(0, 1), (1, 1), (2, 2)] 1 1 1 rfl (([] : List Value) ++ ([(.int .i64 x.replica)])) ([(.int .i64 x.index)]) (x.sig.enc ++ (([] : List Value))) ([(.int .i64 v)]) (.int .i64 v) rest (rfl) (by simp [GSig.enc_len]) (by simp [GSig.enc_len]) (by simp [GSig.enc_len])
  have e1 : x.enc = (([] : List Value) ++ ([(.int .i64 x.replica)])) ++ ([(.int .i64 x.index)] ++ (x.sig.enc ++ (([] : List Value)))) := by simp only [GDeny.enc, List.nil_append, List.append_assoc, List.append_nil]
  have e2 : ({ x with index := v } : GDeny).enc = (([] : List Value) ++ ([(.int .i64 x.replica)])) ++ ([(.int .i64 v)] ++ (x.sig.enc ++ (([] : List Value)))) := by simp only [GDeny.enc, List.nil_append, List.append_assoc, List.append_nil]
  rw [e1, e2]; exact h
@[go_sem ↓ high] theorem xd_GDeny (ρ : Operand → Value) (dst : Option Tmp) (ps : Array (Nat × Operand)) (ty : TypeId) (pos : String) (after : Array Edge) (guard : Option (Nat × Bool)) : execOp ρ { dst, op := .build 68 ps, type := ty, pos, after, guard } = (do pure (.value (← gBuild 68 (ps.map fun (i, x) => (i, ρ x))))) := ex_build ..
@[go_sem ↓ high] theorem bd68_0 (w : World) (v0 : Int) (v1 : Int) : (gBuild 68 #[(0, (.int .i64 v0)), (1, (.int .i64 v1))]).run Tryz.prog w = .ok (GDeny.val ⟨v0, v1, default⟩) w := by
  rw [GDeny.val_eq]
  refine run_gBuild_of uu68 zr68 pl68 ?_ w
  show Instr.fill _ (GDeny.enc default).toArray [(0, (.int .i64 v0)), (1, (.int .i64 v1))] = _
  rw [fs68_0, fs68_1]; rfl
theorem eq_GDeny (w : World) (d : Nat) (x y : GDeny) : (Op.equalIn (d + 3) 68 (GDeny.val x) (GDeny.val y)).run Tryz.prog w = .ok (decide (x = y)) w := by
  have q0 : ∀ a b, (Op.equalIn (d + 2) 3 (.int .i64 a) (.int .i64 b)).run Tryz.prog w = .ok (decide (a = b)) w := fun a b => by rw [run_equalIn_int w (d + 1) 3 .i64 .i64 a b uk3]; congr 1
  have q1 : ∀ a b, (Op.equalIn (d + 2) 3 (.int .i64 a) (.int .i64 b)).run Tryz.prog w = .ok (decide (a = b)) w := fun a b => by rw [run_equalIn_int w (d + 1) 3 .i64 .i64 a b uk3]; congr 1
  have q2 : (Op.equalIn (d + 2) 39 x.sig.val y.sig.val).run Tryz.prog w = .ok (decide (x.sig = y.sig)) w := eq_GSig w (d + 0) _ _
  have h := run_equalIn_fields (d + 2) x.enc.toArray y.enc.toArray w uu68 st68 nb68
  rw [fl68] at h
  unfold GDeny.val
  refine h.trans ?_
  clear h
  simp only [eqFs, Sem.run_bind, pt68_0, pt68_1, pt68_2, q0, q1, q2, Result.andThen_ok, Sem.run_ite, Sem.run_pure]
  have he : decide (x = y) = (decide (x.replica = y.replica) && (decide (x.index = y.index) && (decide (x.sig = y.sig)))) := by
    rw [Bool.eq_iff_iff]; simp only [Bool.and_eq_true, decide_eq_true_eq]; exact GDeny.ext_all x y
  rw [he]
  generalize decide (x.replica = y.replica) = c0; generalize decide (x.index = y.index) = c1; generalize decide (x.sig = y.sig) = c2
  cases c0 <;> cases c1 <;> cases c2 <;> simp
@[go_sem ↓ high] theorem xq_GDeny (ρ : Operand → Value) (dst : Option Tmp) (x y : Operand) (ty yt : TypeId) (pos : String) (after : Array Edge) (guard : Option (Nat × Bool)) : execOp ρ { dst, op := .binOp .eql 68 x y yt, type := ty, pos, after, guard } = (do pure (.value (← gBin .eql 68 x y (ρ x) (ρ y)))) := ex_eql ..
@[go_sem ↓ high] theorem xn_GDeny (ρ : Operand → Value) (dst : Option Tmp) (x y : Operand) (ty yt : TypeId) (pos : String) (after : Array Edge) (guard : Option (Nat × Bool)) : execOp ρ { dst, op := .binOp .neq 68 x y yt, type := ty, pos, after, guard } = (do pure (.value (← gBin .neq 68 x y (ρ x) (ρ y)))) := ex_neq ..
theorem eg_GDeny : Tryz.prog.eqGuardType Tryz.prog.depth 68 = false := by kernel_rfl
@[go_sem ↓ high] theorem eql_GDeny (w : World) (ox oy : Operand) (x y : GDeny) : (gBin .eql 68 ox oy (GDeny.val x) (GDeny.val y)).run Tryz.prog w = .ok (.bool (decide (x = y))) w := by
  have h2 := eq_GDeny w 9997 x y
  rw [GDeny.val_eq, GDeny.val_eq] at h2 ⊢
  have h := run_eqGuard_agg (P := Tryz.prog) w .eql 68 ox oy (Enc.enc x).toArray (Enc.enc y).toArray eg_GDeny
  unfold gBin
  simp only [Sem.run_bind, h, Result.andThen_ok, run_eql_struct, h2]
@[go_sem ↓ high] theorem neq_GDeny (w : World) (ox oy : Operand) (x y : GDeny) : (gBin .neq 68 ox oy (GDeny.val x) (GDeny.val y)).run Tryz.prog w = .ok (.bool (!decide (x = y))) w := by
  have h2 := eq_GDeny w 9997 x y
  rw [GDeny.val_eq, GDeny.val_eq] at h2 ⊢
  have h := run_eqGuard_agg (P := Tryz.prog) w .neq 68 ox oy (Enc.enc x).toArray (Enc.enc y).toArray eg_GDeny
  unfold gBin
  simp only [Sem.run_bind, h, Result.andThen_ok, run_neq_struct, h2]
/-! ### []ledger.place -/
theorem ei118 : ElemI Tryz.prog 118 170 GLedgerPlace 88 := ⟨by kernel_rfl, by kernel_rfl⟩
@[go_sem ↓ high] theorem xg_118 (ρ : Operand → Value) (dst : Option Tmp) (ps : Array (Nat × Operand)) (ty : TypeId) (pos : String) (after : Array Edge) (guard : Option (Nat × Bool)) : execOp ρ { dst, op := .buildSlice 118 1 ps, type := ty, pos, after, guard } = (do pure (.value (← gBuildSlice 118 1 (ps.map fun (i, x) => (i, ρ x))))) := ex_buildSlice ..
@[go_sem ↓ high] theorem bs_118 (w : World) (x : GLedgerPlace) : (gBuildSlice 118 1 #[(0, GLedgerPlace.val x)]).run Tryz.prog w = .ok (.slice (some ⟨w.heap.size, 0, none⟩) 1 1) (w.alloc (.cells (GLedgerPlace.enc x).toArray 170)) := by
  rw [GLedgerPlace.val_eq]; exact run_buildSlice_one ei118 (by decide) x w
/-! ### []uint8 -/
theorem ei64 : ElemI Tryz.prog 64 5 U8 1 := ⟨by kernel_rfl, by kernel_rfl⟩
/-! ### []api.Stamp -/
theorem ei45 : ElemI Tryz.prog 45 44 GStamp 80 := ⟨by kernel_rfl, by kernel_rfl⟩
@[go_sem ↓ high] theorem xg_45 (ρ : Operand → Value) (dst : Option Tmp) (ps : Array (Nat × Operand)) (ty : TypeId) (pos : String) (after : Array Edge) (guard : Option (Nat × Bool)) : execOp ρ { dst, op := .buildSlice 45 1 ps, type := ty, pos, after, guard } = (do pure (.value (← gBuildSlice 45 1 (ps.map fun (i, x) => (i, ρ x))))) := ex_buildSlice ..
@[go_sem ↓ high] theorem bs_45 (w : World) (x : GStamp) : (gBuildSlice 45 1 #[(0, GStamp.val x)]).run Tryz.prog w = .ok (.slice (some ⟨w.heap.size, 0, none⟩) 1 1) (w.alloc (.cells (GStamp.enc x).toArray 44)) := by
  rw [GStamp.val_eq]; exact run_buildSlice_one ei45 (by decide) x w
/-! ### []api.Cert -/
theorem ei50 : ElemI Tryz.prog 50 47 GCert 96 := ⟨by kernel_rfl, by kernel_rfl⟩
@[go_sem ↓ high] theorem xg_50 (ρ : Operand → Value) (dst : Option Tmp) (ps : Array (Nat × Operand)) (ty : TypeId) (pos : String) (after : Array Edge) (guard : Option (Nat × Bool)) : execOp ρ { dst, op := .buildSlice 50 1 ps, type := ty, pos, after, guard } = (do pure (.value (← gBuildSlice 50 1 (ps.map fun (i, x) => (i, ρ x))))) := ex_buildSlice ..
@[go_sem ↓ high] theorem bs_50 (w : World) (x : GCert) : (gBuildSlice 50 1 #[(0, GCert.val x)]).run Tryz.prog w = .ok (.slice (some ⟨w.heap.size, 0, none⟩) 1 1) (w.alloc (.cells (GCert.enc x).toArray 47)) := by
  rw [GCert.val_eq]; exact run_buildSlice_one ei50 (by decide) x w
/-! ### []api.Promise -/
theorem ei53 : ElemI Tryz.prog 53 52 GPromise 64 := ⟨by kernel_rfl, by kernel_rfl⟩
@[go_sem ↓ high] theorem xg_53 (ρ : Operand → Value) (dst : Option Tmp) (ps : Array (Nat × Operand)) (ty : TypeId) (pos : String) (after : Array Edge) (guard : Option (Nat × Bool)) : execOp ρ { dst, op := .buildSlice 53 1 ps, type := ty, pos, after, guard } = (do pure (.value (← gBuildSlice 53 1 (ps.map fun (i, x) => (i, ρ x))))) := ex_buildSlice ..
@[go_sem ↓ high] theorem bs_53 (w : World) (x : GPromise) : (gBuildSlice 53 1 #[(0, GPromise.val x)]).run Tryz.prog w = .ok (.slice (some ⟨w.heap.size, 0, none⟩) 1 1) (w.alloc (.cells (GPromise.enc x).toArray 52)) := by
  rw [GPromise.val_eq]; exact run_buildSlice_one ei53 (by decide) x w
/-! ### []api.Opening -/
theorem ei54 : ElemI Tryz.prog 54 66 GOpening 64 := ⟨by kernel_rfl, by kernel_rfl⟩
@[go_sem ↓ high] theorem xg_54 (ρ : Operand → Value) (dst : Option Tmp) (ps : Array (Nat × Operand)) (ty : TypeId) (pos : String) (after : Array Edge) (guard : Option (Nat × Bool)) : execOp ρ { dst, op := .buildSlice 54 1 ps, type := ty, pos, after, guard } = (do pure (.value (← gBuildSlice 54 1 (ps.map fun (i, x) => (i, ρ x))))) := ex_buildSlice ..
@[go_sem ↓ high] theorem bs_54 (w : World) (x : GOpening) : (gBuildSlice 54 1 #[(0, GOpening.val x)]).run Tryz.prog w = .ok (.slice (some ⟨w.heap.size, 0, none⟩) 1 1) (w.alloc (.cells (GOpening.enc x).toArray 66)) := by
  rw [GOpening.val_eq]; exact run_buildSlice_one ei54 (by decide) x w
/-! ### []api.Tomb -/
theorem ei55 : ElemI Tryz.prog 55 280 GTomb 32 := ⟨by kernel_rfl, by kernel_rfl⟩
@[go_sem ↓ high] theorem xg_55 (ρ : Operand → Value) (dst : Option Tmp) (ps : Array (Nat × Operand)) (ty : TypeId) (pos : String) (after : Array Edge) (guard : Option (Nat × Bool)) : execOp ρ { dst, op := .buildSlice 55 1 ps, type := ty, pos, after, guard } = (do pure (.value (← gBuildSlice 55 1 (ps.map fun (i, x) => (i, ρ x))))) := ex_buildSlice ..
@[go_sem ↓ high] theorem bs_55 (w : World) (x : GTomb) : (gBuildSlice 55 1 #[(0, GTomb.val x)]).run Tryz.prog w = .ok (.slice (some ⟨w.heap.size, 0, none⟩) 1 1) (w.alloc (.cells (GTomb.enc x).toArray 280)) := by
  rw [GTomb.val_eq]; exact run_buildSlice_one ei55 (by decide) x w
instance : KEnc GName := ⟨GName.val, fun a b h => by rw [GName.val_eq, GName.val_eq] at h; injection h with h; exact Enc.inj _ _ (by simpa using congrArg Array.toList h)⟩
theorem kl35 : KeyLaws Tryz.prog 35 GName where
  chk := fun e k w => by
    show (Instr.checkKey e 10000 35 (GName.val k)).run Tryz.prog w = _
    rw [GName.val_eq]
    rw [run_checkKey_struct e 9999 _ w uu35 nb35, fl35]
    show (chkFs e 9999 k.enc.toArray _).run Tryz.prog w = _
    simp only [chkFs, Sem.run_bind, pt35_0, pt35_1, Result.andThen_ok, run_checkKey_one e 9998 uk3, Sem.run_pure]
  fnd := fnd_struct (fun k k' w => eq_GName w 9998 k k') uu35 (fun k k' => by show Instr.sameNow _ (GName.val k) (GName.val k') = none; rw [GName.val_eq, GName.val_eq]; rfl)
  same := fun k => by
    show Instr.sameBits 10000 (GName.val k) (GName.val k) = true
    rw [GName.val_eq]
    exact sameBits_cells 9999 _ (Enc.one k) (fun u hu => by
      have hu' : u ∈ k.enc := hu
      unfold GName.enc at hu'
      simp only [List.mem_append, List.mem_singleton] at hu'
      rcases hu' with rfl | rfl <;> exact sameBits_int _ _ _)

/-! ### map[api.Name]int -/
theorem um119 : Tryz.prog.underlying 119 = some (.map 35 3) := by kernel_rfl
theorem zv119_3 : zeroT Tryz.prog 3 = some (VEnc.vv (0 : Int)) := by kernel_rfl
@[go_sem ↓ high] theorem xk_119 (ρ : Operand → Value) (dst : Option Tmp) (x y : Operand) (ok : Bool) (ty : TypeId) (pos : String) (after : Array Edge) (guard : Option (Nat × Bool)) : execOp ρ { dst, op := .lookup 119 x y ok, type := ty, pos, after, guard } = (do pure (.value (← gLookup 119 (ρ x) (ρ y) ok))) := ex_lookup ..
@[go_sem ↓ high] theorem xu_119 (ρ : Operand → Value) (dst : Option Tmp) (x y z : Operand) (ty : TypeId) (pos : String) (after : Array Edge) (guard : Option (Nat × Bool)) : execOp ρ { dst, op := .mapUpdate 119 x y z, type := ty, pos, after, guard } = (do gMapUpdate 119 (ρ x) (ρ y) (ρ z); pure .skip) := ex_mapUpdate ..
@[go_sem ↓ high] theorem lk_119 (w : World) (r : Nat) (k : GName) : (gLookup 119 (.map (some r)) (GName.val k) false).run Tryz.prog w = ofOpt ((mapAt GName Int w r).map fun m => (.int .i64 ((mget m k).getD 0))) w (noLookup Tryz.prog 119 (.map (some r)) (GName.val k) false w) :=
  run_gLookup kl35 um119 zv119_3 w r k
@[go_sem ↓ high] theorem lo_119 (w : World) (r : Nat) (k : GName) : (gLookup 119 (.map (some r)) (GName.val k) true).run Tryz.prog w = ofOpt ((mapAt GName Int w r).map fun m => .tuple #[(.int .i64 ((mget m k).getD 0)), .bool (mget m k).isSome]) w (noLookup Tryz.prog 119 (.map (some r)) (GName.val k) true w) :=
  run_gLookup_ok kl35 um119 zv119_3 w r k
@[go_sem ↓ high] theorem ln_119 (w : World) (k : GName) : (gLookup 119 (.map none) (GName.val k) false).run Tryz.prog w = .ok (.int .i64 (0 : Int)) w :=
  run_gLookup_nil kl35 um119 zv119_3 w k
@[go_sem ↓ high] theorem mu_119 (w : World) (r : Nat) (k : GName) (v : Int) : (gMapUpdate 119 (.map (some r)) (GName.val k) (.int .i64 v)).run Tryz.prog w = okU ((mapAt GName Int w r).isSome) (mput Tryz.prog 119 w r k v) (noUpdate Tryz.prog 119 (.map (some r)) (GName.val k) (.int .i64 v) w) :=
  run_gMapUpdate kl35 um119 w r k v
@[go_sem] theorem sz_mput_119 (w : World) (r : Nat) (k : GName) (v : Int) (h : (mapAt GName Int w r).isSome = true) : (mput Tryz.prog 119 w r k v).heap.size = w.heap.size := by
  obtain ⟨m, hm⟩ := Option.isSome_iff_exists.1 h; exact mput_size kl35 um119 hm k v

end Go.Proofs.YthkifibmihijaaaGreatDoor
/- What the arguments of this seat read as. Conditions: those named in each theorem. -/
namespace Go.Proofs.YthkifibmihijaaaGreatDoor
open Go Go.RowKit Go.Gv

theorem cz23 : Tryz.prog.cellsOf 23 = 2 := by kernel_rfl
theorem cz3 : Tryz.prog.cellsOf 3 = 1 := by kernel_rfl
def ok23 (_W : World) (x : GConf) : Prop := FitI .i64 x.f ∧ FitI .i64 x.clients
theorem op23 (W : World) : Opens Tryz.prog W 23 GConf (ok23 W) := fun H enc fuel cs x h => by
  obtain ⟨hl, n, hf⟩ := open_fieldT uu23 h
  rw [cz23] at hl
  obtain ⟨y0, h0⟩ := hf 0 3 0 (by rw [fl23]; rfl)
  obtain ⟨n0, e0, _, k0⟩ := DataW.trod_int uk3 h0
  rw [cz3] at e0
  have s0 : cs.drop 0 = [.int .i64 n0] ++ cs.drop 1 := by rw [← e0]; exact drop_split cs 0 1
  obtain ⟨y1, h1⟩ := hf 1 3 1 (by rw [fl23]; rfl)
  obtain ⟨n1, e1, _, k1⟩ := DataW.trod_int uk3 h1
  rw [cz3] at e1
  have s1 : cs.drop 1 = [.int .i64 n1] ++ cs.drop 2 := by rw [← e1]; exact drop_split cs 1 1
  have hz : cs.drop 2 = [] := List.drop_eq_nil_of_le (by omega)
  refine ⟨⟨n0, n1⟩, ?_, k0, k1⟩
  have hh : cs.drop 0 = [.int .i64 n0] ++ ([.int .i64 n1]) := by rw [s0, s1, hz, List.append_nil]
  exact hh
theorem op3 (W : World) : Opens Tryz.prog W 3 I64 (fun x => FitI .i64 x.v) := opens_i64 (by kernel_rfl)
end Go.Proofs.YthkifibmihijaaaGreatDoor
/- Facts that the frames of all laws of this seat share. Conditions: none. -/
namespace Go.Proofs.YthkifibmihijaaaGreatDoor
open Go Go.RowKit Go.Gv
theorem ownK : ownKnob Tryz.prog.godebug = none := by kernel_rfl
theorem laidK : laidOutB Tryz.prog = true := by kernel_rfl
end Go.Proofs.YthkifibmihijaaaGreatDoor
