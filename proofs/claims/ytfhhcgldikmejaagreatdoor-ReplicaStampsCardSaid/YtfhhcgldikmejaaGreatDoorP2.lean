/- The struct types of this seat as Lean types, with the runs of single operations over them. Conditions: those named in each theorem. -/
import Derived.Test.YtfhhcgldikmejaaGreatDoorP1
/- The struct types of this seat as Lean types, with the runs of single operations over them. Conditions: those named in each theorem. -/
namespace Go.Proofs.YtfhhcgldikmejaaGreatDoor
open Go Go.RowKit Go.Gv
set_option linter.unusedSimpArgs false

/-! ### gavel/api.Conf -/
structure GConf where
  f : Int
  clients : Int
deriving DecidableEq
instance : Inhabited GConf := ⟨⟨0, 0⟩⟩
def GConf.enc (x : GConf) : List Value := [(.int .i64 x.f)] ++ ([(.int .i64 x.clients)])
theorem GConf.enc_len (x : GConf) : x.enc.length = 2 := by simp [GConf.enc]
theorem GConf.enc_one (x : GConf) : ∀ u ∈ x.enc, u.oneCell' = true := by
  intro u hu
  simp only [GConf.enc, List.mem_append, List.mem_singleton] at hu
  rcases hu with hu | hu
  · subst hu; rfl
  · subst hu; rfl
theorem GConf.enc_inj (x y : GConf) (h : x.enc = y.enc) : x = y := by
  obtain ⟨a0, a1⟩ := x
  obtain ⟨b0, b1⟩ := y
  simp only [GConf.enc] at h
  obtain ⟨p0, q0⟩ := List.append_inj h (rfl)
  have e0 : a0 = b0 := by have := List.head_eq_of_cons_eq p0; injection this
  have e1 : a1 = b1 := by have := List.head_eq_of_cons_eq q0; injection this
  rw [e0, e1]
instance : Enc GConf where
  n := 2
  enc := GConf.enc
  pos := by omega
  len := GConf.enc_len
  one := GConf.enc_one
  inj := GConf.enc_inj
@[go_sem] theorem GConf.n_eq : Enc.n GConf = 2 := rfl
@[irreducible] def GConf.val (x : GConf) : Value := .agg x.enc.toArray
theorem GConf.val_eq (x : GConf) : GConf.val x = .agg (Enc.enc x).toArray := by unfold GConf.val; rfl
theorem uu24 : Tryz.prog.underlying 24 = some (.struct (Tryz.prog.fieldsOf 24)) := by kernel_rfl
@[go_sem ↓ high] theorem xl_GConf (ρ : Operand → Value) (dst : Option Tmp) (x : Operand) (ty : TypeId) (pos : String) (after : Array Edge) (guard : Option (Nat × Bool)) : execOp ρ { dst, op := .load 24 x, type := ty, pos, after, guard } = (do pure (.value (← gLoad 24 (ρ x)))) := ex_load ..
@[go_sem ↓ high] theorem xs_GConf (ρ : Operand → Value) (dst : Option Tmp) (x y : Operand) (ty : TypeId) (pos : String) (after : Array Edge) (guard : Option (Nat × Bool)) : execOp ρ { dst, op := .store 24 x y, type := ty, pos, after, guard } = (do gStore 24 (ρ x) (ρ y); pure .skip) := ex_store ..
@[go_sem ↓ high] theorem xb_GConf (ρ : Operand → Value) (dst : Option Tmp) (x : Operand) (ty : TypeId) (pos : String) (after : Array Edge) (guard : Option (Nat × Bool)) : execOp ρ { dst, op := .box 24 x, type := ty, pos, after, guard } = (do pure (.value (← gBox 24 (ρ x)))) := ex_box ..
@[go_sem ↓ high] theorem xa_GConf (ρ : Operand → Value) (dst : Option Tmp) (ty : TypeId) (pos : String) (after : Array Edge) (guard : Option (Nat × Bool)) : execOp ρ { dst, op := .alloc 24, type := ty, pos, after, guard } = (do pure (.value (← gAlloc 24))) := ex_alloc ..
theorem ag24 : aggT Tryz.prog 24 = true := by kernel_rfl
theorem sz24 : sizeT Tryz.prog 24 = 2 := by kernel_rfl
section
variable (w : World)
@[go_sem ↓ high] theorem ld_GConf (a : Addr) : (gLoad 24 (.pointer (some a))).run Tryz.prog w = ofOpt ((get? GConf w a).map GConf.val) w (noLoad Tryz.prog 24 a w) := by
  unfold gLoad; exact run_loadAt_opt ag24 sz24 GConf.val GConf.val_eq
@[go_sem ↓ high] theorem st_GConf (a : Addr) (x : GConf) : (gStore 24 (.pointer (some a)) (GConf.val x)).run Tryz.prog w = okU' ((get? GConf w a).isSome && blkFree w a.block) (World.putCells w a (GConf.enc x)) (noStore Tryz.prog 24 (.pointer (some a)) (GConf.val x) w) := run_gStore_any sz24 GConf.val GConf.val_eq w a x
@[go_sem ↓ high] theorem bx_GConf (x : GConf) : (gBox 24 (GConf.val x)).run Tryz.prog w = .ok (.pointer (some ⟨w.heap.size, 0, none⟩)) (w.alloc (.cells (GConf.enc x).toArray 24)) := by
  rw [GConf.val_eq]; exact run_gBox _ w
end
theorem lk24_0 (x : GConf) : x.enc[0]? = some (.int .i64 x.f) := by
  simp [GConf.enc, List.getElem?_append]
theorem lk24_1 (x : GConf) : x.enc[1]? = some (.int .i64 x.clients) := by
  simp [GConf.enc, List.getElem?_append]
theorem zr24 : zeroT Tryz.prog 24 = some (.agg (GConf.enc default).toArray) := by kernel_rfl
@[go_sem ↓ high] theorem al_GConf (w : World) : (gAlloc 24).run Tryz.prog w = .ok (.pointer (some ⟨w.heap.size, 0, none⟩)) (w.alloc (.cells (GConf.enc default).toArray 24)) := run_zero_alloc zr24 w
@[go_sem] theorem pc_GConf (w : World) (n : Nat) (x z : GConf) (hn : n = w.heap.size) : World.putCells (w.alloc (.cells (GConf.enc z).toArray 24)) ⟨n, 0, none⟩ (GConf.enc x) = w.alloc (.cells (GConf.enc x).toArray 24) := putCells_top x z hn
theorem GConf.at_f {w : World} {a : Addr} {x : GConf} (h : get? GConf w a = some x) : w.cell? (a.add 0) = some (.int .i64 x.f) := (get?_iff.1 h) _ _ (lk24_0 x)
theorem GConf.at_clients {w : World} {a : Addr} {x : GConf} (h : get? GConf w a = some x) : w.cell? (a.add 1) = some (.int .i64 x.clients) := (get?_iff.1 h) _ _ (lk24_1 x)
@[go_sem] theorem nl24_0 (x : GConf) : x.enc[0]? = some (.int .i64 x.f) := by
  have h := (GConf.at_f (get?_new (w := (default : World)) 24 x))
  simp only [Addr.add_lit, Nat.zero_add, Nat.reduceAdd, World.cell?_alloc_new, List.getElem?_toArray] at h
  exact h
@[go_sem] theorem nl24_1 (x : GConf) : x.enc[1]? = some (.int .i64 x.clients) := by
  have h := (GConf.at_clients (get?_new (w := (default : World)) 24 x))
  simp only [Addr.add_lit, Nat.zero_add, Nat.reduceAdd, World.cell?_alloc_new, List.getElem?_toArray] at h
  exact h
@[go_sem] theorem nw24 (w : World) (n : Nat) (x : GConf) (hn : n = w.heap.size) : get? GConf (w.alloc (.cells (GConf.enc x).toArray 24)) ⟨n, 0, none⟩ = some x := by
  subst hn; exact get?_new 24 x
theorem pl24 : ((Tryz.prog.fieldsOf 24).toList.mapM fun f => (Tryz.prog.info? f.type).map fun i => (f.offset, i.size)) = some [(0, 1), (1, 1)] := by kernel_rfl
theorem fs24_0 (x : GConf) (v : Int) (rest : List (Nat × Value)) : Instr.fill (fun i => ([(0, 1), (1, 1)] : List (Nat × Nat))[i]?) x.enc.toArray ((0, (.int .i64 v)) :: rest) = Instr.fill (fun i => ([(0, 1), (1, 1)] : List (Nat × Nat))[i]?) ({ x with f := v } : GConf).enc.toArray rest := by
  have h := fill_seg [(0, 1), (1, 1)] 0 0 1 rfl (([] : List Value)) ([(.int .i64 x.f)]) ([(.int .i64 x.clients)] ++ (([] : List Value))) ([(.int .i64 v)]) (.int .i64 v) rest (rfl) (by simp) (by simp) (by simp)
  have e1 : x.enc = (([] : List Value)) ++ ([(.int .i64 x.f)] ++ ([(.int .i64 x.clients)] ++ (([] : List Value)))) := by simp only [GConf.enc, List.nil_append, List.append_assoc, List.append_nil]
  have e2 : ({ x with f := v } : GConf).enc = (([] : List Value)) ++ ([(.int .i64 v)] ++ ([(.int .i64 x.clients)] ++ (([] : List Value)))) := by simp only [GConf.enc, List.nil_append, List.append_assoc, List.append_nil]
  rw [e1, e2]; exact h
theorem fs24_1 (x : GConf) (v : Int) (rest : List (Nat × Value)) : Instr.fill (fun i => ([(0, 1), (1, 1)] : List (Nat × Nat))[i]?) x.enc.toArray ((1, (.int .i64 v)) :: rest) = Instr.fill (fun i => ([(0, 1), (1, 1)] : List (Nat × Nat))[i]?) ({ x with clients := v } : GConf).enc.toArray rest := by
  have h := fill_seg [(0, 1), (1, 1)] 1 1 1 rfl (([] : List Value) ++ ([(.int .i64 x.f)])) ([(.int .i64 x.clients)]) (([] : List Value)) ([(.int .i64 v)]) (.int .i64 v) rest (rfl) (by simp) (by simp) (by simp)
  have e1 : x.enc = (([] : List Value) ++ ([(.int .i64 x.f)])) ++ ([(.int .i64 x.clients)] ++ (([] : List Value))) := by simp only [GConf.enc, List.nil_append, List.append_assoc, List.append_nil]
  have e2 : ({ x with clients := v } : GConf).enc = (([] : List Value) ++ ([(.int .i64 x.f)])) ++ ([(.int .i64 v)] ++ (([] : List Value))) := by simp only [GConf.enc, List.nil_append, List.append_assoc, List.append_nil]
  rw [e1, e2]; exact h
@[go_sem ↓ high] theorem xd_GConf (ρ : Operand → Value) (dst : Option Tmp) (ps : Array (Nat × Operand)) (ty : TypeId) (pos : String) (after : Array Edge) (guard : Option (Nat × Bool)) : execOp ρ { dst, op := .build 24 ps, type := ty, pos, after, guard } = (do pure (.value (← gBuild 24 (ps.map fun (i, x) => (i, ρ x))))) := ex_build ..
@[go_sem ↓ high] theorem bd24_0 (w : World) (v0 : Int) (v1 : Int) : (gBuild 24 #[(0, (.int .i64 v0)), (1, (.int .i64 v1))]).run Tryz.prog w = .ok (GConf.val ⟨v0, v1⟩) w := by
  rw [GConf.val_eq]
  refine run_gBuild_of uu24 zr24 pl24 ?_ w
  show Instr.fill _ (GConf.enc default).toArray [(0, (.int .i64 v0)), (1, (.int .i64 v1))] = _
  rw [fs24_0, fs24_1]; rfl
/-! ### gavel/ledger.Ledger -/
structure GLedgerLedger where
  epoch : Int
  last : Int
  l : Hdr
  names : Option Nat
  done : Int
deriving DecidableEq
instance : Inhabited GLedgerLedger := ⟨⟨0, 0, default, none, 0⟩⟩
def GLedgerLedger.enc (x : GLedgerLedger) : List Value := [(.int .i64 x.epoch)] ++ ([(.int .u64 x.last)] ++ ([(x.l.val)] ++ ([(.map x.names)] ++ ([(.int .i64 x.done)]))))
theorem GLedgerLedger.enc_len (x : GLedgerLedger) : x.enc.length = 5 := by simp [GLedgerLedger.enc]
theorem GLedgerLedger.enc_one (x : GLedgerLedger) : ∀ u ∈ x.enc, u.oneCell' = true := by
  intro u hu
  simp only [GLedgerLedger.enc, List.mem_append, List.mem_singleton] at hu
  rcases hu with hu | hu | hu | hu | hu
  · subst hu; rfl
  · subst hu; rfl
  · subst hu; rfl
  · subst hu; rfl
  · subst hu; rfl
theorem GLedgerLedger.enc_inj (x y : GLedgerLedger) (h : x.enc = y.enc) : x = y := by
  obtain ⟨a0, a1, a2, a3, a4⟩ := x
  obtain ⟨b0, b1, b2, b3, b4⟩ := y
  simp only [GLedgerLedger.enc] at h
  obtain ⟨p0, q0⟩ := List.append_inj h (rfl)
  have e0 : a0 = b0 := by have := List.head_eq_of_cons_eq p0; injection this
  obtain ⟨p1, q1⟩ := List.append_inj q0 (rfl)
  have e1 : a1 = b1 := by have := List.head_eq_of_cons_eq p1; injection this
  obtain ⟨p2, q2⟩ := List.append_inj q1 (rfl)
  have e2 : a2 = b2 := Enc.inj (α := Hdr) _ _ p2
  obtain ⟨p3, q3⟩ := List.append_inj q2 (rfl)
  have e3 : a3 = b3 := by have := List.head_eq_of_cons_eq p3; injection this
  have e4 : a4 = b4 := by have := List.head_eq_of_cons_eq q3; injection this
  rw [e0, e1, e2, e3, e4]
instance : Enc GLedgerLedger where
  n := 5
  enc := GLedgerLedger.enc
  pos := by omega
  len := GLedgerLedger.enc_len
  one := GLedgerLedger.enc_one
  inj := GLedgerLedger.enc_inj
@[go_sem] theorem GLedgerLedger.n_eq : Enc.n GLedgerLedger = 5 := rfl
@[irreducible] def GLedgerLedger.val (x : GLedgerLedger) : Value := .agg x.enc.toArray
theorem GLedgerLedger.val_eq (x : GLedgerLedger) : GLedgerLedger.val x = .agg (Enc.enc x).toArray := by unfold GLedgerLedger.val; rfl
theorem uu182 : Tryz.prog.underlying 182 = some (.struct (Tryz.prog.fieldsOf 182)) := by kernel_rfl
@[go_sem ↓ high] theorem xb_GLedgerLedger (ρ : Operand → Value) (dst : Option Tmp) (x : Operand) (ty : TypeId) (pos : String) (after : Array Edge) (guard : Option (Nat × Bool)) : execOp ρ { dst, op := .box 182 x, type := ty, pos, after, guard } = (do pure (.value (← gBox 182 (ρ x)))) := ex_box ..
section
variable (w : World)
@[go_sem ↓ high] theorem bx_GLedgerLedger (x : GLedgerLedger) : (gBox 182 (GLedgerLedger.val x)).run Tryz.prog w = .ok (.pointer (some ⟨w.heap.size, 0, none⟩)) (w.alloc (.cells (GLedgerLedger.enc x).toArray 182)) := by
  rw [GLedgerLedger.val_eq]; exact run_gBox _ w
end
theorem lk182_0 (x : GLedgerLedger) : x.enc[0]? = some (.int .i64 x.epoch) := by
  simp [GLedgerLedger.enc, List.getElem?_append]
theorem lk182_1 (x : GLedgerLedger) : x.enc[1]? = some (.int .u64 x.last) := by
  simp [GLedgerLedger.enc, List.getElem?_append]
theorem zr182 : zeroT Tryz.prog 182 = some (.agg (GLedgerLedger.enc default).toArray) := by kernel_rfl
theorem GLedgerLedger.at_epoch {w : World} {a : Addr} {x : GLedgerLedger} (h : get? GLedgerLedger w a = some x) : w.cell? (a.add 0) = some (.int .i64 x.epoch) := (get?_iff.1 h) _ _ (lk182_0 x)
theorem GLedgerLedger.at_last {w : World} {a : Addr} {x : GLedgerLedger} (h : get? GLedgerLedger w a = some x) : w.cell? (a.add 1) = some (.int .u64 x.last) := (get?_iff.1 h) _ _ (lk182_1 x)
@[go_sem] theorem nw182 (w : World) (n : Nat) (x : GLedgerLedger) (hn : n = w.heap.size) : get? GLedgerLedger (w.alloc (.cells (GLedgerLedger.enc x).toArray 182)) ⟨n, 0, none⟩ = some x := by
  subst hn; exact get?_new 182 x
theorem pl182 : ((Tryz.prog.fieldsOf 182).toList.mapM fun f => (Tryz.prog.info? f.type).map fun i => (f.offset, i.size)) = some [(0, 1), (1, 1), (2, 1), (3, 1), (4, 1)] := by kernel_rfl
theorem fs182_3 (x : GLedgerLedger) (v : Option Nat) (rest : List (Nat × Value)) : Instr.fill (fun i => ([(0, 1), (1, 1), (2, 1), (3, 1), (4, 1)] : List (Nat × Nat))[i]?) x.enc.toArray ((3, (.map v)) :: rest) = Instr.fill (fun i => ([(0, 1), (1, 1), (2, 1), (3, 1), (4, 1)] : List (Nat × Nat))[i]?) ({ x with names := v } : GLedgerLedger).enc.toArray rest := by
  have h := fill_seg [(0, 1), (1, 1), (2, 1), (3, 1), (4, 1)] 3 3 1 rfl (([] : List Value) ++ ([(.int .i64 x.epoch)] ++ ([(.int .u64 x.last)] ++ ([(x.l.val)])))) ([(.map x.names)]) ([(.int .i64 x.done)] ++ (([] : List Value))) ([(.map v)]) (.map v) rest (rfl) (by simp) (by simp) (by simp)
  have e1 : x.enc = (([] : List Value) ++ ([(.int .i64 x.epoch)] ++ ([(.int .u64 x.last)] ++ ([(x.l.val)])))) ++ ([(.map x.names)] ++ ([(.int .i64 x.done)] ++ (([] : List Value)))) := by simp only [GLedgerLedger.enc, List.nil_append, List.append_assoc, List.append_nil]
  have e2 : ({ x with names := v } : GLedgerLedger).enc = (([] : List Value) ++ ([(.int .i64 x.epoch)] ++ ([(.int .u64 x.last)] ++ ([(x.l.val)])))) ++ ([(.map v)] ++ ([(.int .i64 x.done)] ++ (([] : List Value)))) := by simp only [GLedgerLedger.enc, List.nil_append, List.append_assoc, List.append_nil]
  rw [e1, e2]; exact h
@[go_sem ↓ high] theorem xd_GLedgerLedger (ρ : Operand → Value) (dst : Option Tmp) (ps : Array (Nat × Operand)) (ty : TypeId) (pos : String) (after : Array Edge) (guard : Option (Nat × Bool)) : execOp ρ { dst, op := .build 182 ps, type := ty, pos, after, guard } = (do pure (.value (← gBuild 182 (ps.map fun (i, x) => (i, ρ x))))) := ex_build ..
@[go_sem ↓ high] theorem bd182_0 (w : World) (v3 : Option Nat) : (gBuild 182 #[(3, (.map v3))]).run Tryz.prog w = .ok (GLedgerLedger.val ⟨0, 0, default, v3, 0⟩) w := by
  rw [GLedgerLedger.val_eq]
  refine run_gBuild_of uu182 zr182 pl182 ?_ w
  show Instr.fill _ (GLedgerLedger.enc default).toArray [(3, (.map v3))] = _
  rw [fs182_3]; rfl

/-! ### gavel/ledger.place -/
structure GLedgerPlace where
  e : GEntry
  status : Int
  payload : Hdr
deriving DecidableEq
instance : Inhabited GLedgerPlace := ⟨⟨default, 0, default⟩⟩
def GLedgerPlace.enc (x : GLedgerPlace) : List Value := x.e.enc ++ ([(.int .i64 x.status)] ++ ([(x.payload.val)]))
theorem GLedgerPlace.enc_len (x : GLedgerPlace) : x.enc.length = 37 := by simp [GLedgerPlace.enc, GEntry.enc_len]
theorem GLedgerPlace.enc_one (x : GLedgerPlace) : ∀ u ∈ x.enc, u.oneCell' = true := by
  intro u hu
  simp only [GLedgerPlace.enc, List.mem_append, List.mem_singleton] at hu
  rcases hu with hu | hu | hu
  · exact Enc.one (α := GEntry) _ _ hu
  · subst hu; rfl
  · subst hu; rfl
theorem GLedgerPlace.enc_inj (x y : GLedgerPlace) (h : x.enc = y.enc) : x = y := by
  obtain ⟨a0, a1, a2⟩ := x
  obtain ⟨b0, b1, b2⟩ := y
  simp only [GLedgerPlace.enc] at h
  obtain ⟨p0, q0⟩ := List.append_inj h (by simp [GEntry.enc_len])
  have e0 := Enc.inj (α := GEntry) _ _ p0
  obtain ⟨p1, q1⟩ := List.append_inj q0 (rfl)
  have e1 : a1 = b1 := by have := List.head_eq_of_cons_eq p1; injection this
  have e2 : a2 = b2 := Enc.inj (α := Hdr) _ _ q1
  rw [e0, e1, e2]
instance : Enc GLedgerPlace where
  n := 37
  enc := GLedgerPlace.enc
  pos := by omega
  len := GLedgerPlace.enc_len
  one := GLedgerPlace.enc_one
  inj := GLedgerPlace.enc_inj
@[go_sem] theorem GLedgerPlace.n_eq : Enc.n GLedgerPlace = 37 := rfl
@[irreducible] def GLedgerPlace.val (x : GLedgerPlace) : Value := .agg x.enc.toArray
section
variable (w : World)
end
/-! ### gavel/api.Batch -/
structure GBatch where
  epoch : Int
  time : Int
  promises : Hdr
  openings : Hdr
  tombs : Hdr
deriving DecidableEq
instance : Inhabited GBatch := ⟨⟨0, 0, default, default, default⟩⟩
def GBatch.enc (x : GBatch) : List Value := [(.int .i64 x.epoch)] ++ ([(.int .u64 x.time)] ++ ([(x.promises.val)] ++ ([(x.openings.val)] ++ ([(x.tombs.val)]))))
theorem GBatch.enc_len (x : GBatch) : x.enc.length = 5 := by simp [GBatch.enc]
theorem GBatch.enc_one (x : GBatch) : ∀ u ∈ x.enc, u.oneCell' = true := by
  intro u hu
  simp only [GBatch.enc, List.mem_append, List.mem_singleton] at hu
  rcases hu with hu | hu | hu | hu | hu
  · subst hu; rfl
  · subst hu; rfl
  · subst hu; rfl
  · subst hu; rfl
  · subst hu; rfl
theorem GBatch.enc_inj (x y : GBatch) (h : x.enc = y.enc) : x = y := by
  obtain ⟨a0, a1, a2, a3, a4⟩ := x
  obtain ⟨b0, b1, b2, b3, b4⟩ := y
  simp only [GBatch.enc] at h
  obtain ⟨p0, q0⟩ := List.append_inj h (rfl)
  have e0 : a0 = b0 := by have := List.head_eq_of_cons_eq p0; injection this
  obtain ⟨p1, q1⟩ := List.append_inj q0 (rfl)
  have e1 : a1 = b1 := by have := List.head_eq_of_cons_eq p1; injection this
  obtain ⟨p2, q2⟩ := List.append_inj q1 (rfl)
  have e2 : a2 = b2 := Enc.inj (α := Hdr) _ _ p2
  obtain ⟨p3, q3⟩ := List.append_inj q2 (rfl)
  have e3 : a3 = b3 := Enc.inj (α := Hdr) _ _ p3
  have e4 : a4 = b4 := Enc.inj (α := Hdr) _ _ q3
  rw [e0, e1, e2, e3, e4]
instance : Enc GBatch where
  n := 5
  enc := GBatch.enc
  pos := by omega
  len := GBatch.enc_len
  one := GBatch.enc_one
  inj := GBatch.enc_inj
@[go_sem] theorem GBatch.n_eq : Enc.n GBatch = 5 := rfl
@[irreducible] def GBatch.val (x : GBatch) : Value := .agg x.enc.toArray
theorem GBatch.val_eq (x : GBatch) : GBatch.val x = .agg (Enc.enc x).toArray := by unfold GBatch.val; rfl
@[go_sem ↓ high] theorem xl_GBatch (ρ : Operand → Value) (dst : Option Tmp) (x : Operand) (ty : TypeId) (pos : String) (after : Array Edge) (guard : Option (Nat × Bool)) : execOp ρ { dst, op := .load 54 x, type := ty, pos, after, guard } = (do pure (.value (← gLoad 54 (ρ x)))) := ex_load ..
@[go_sem ↓ high] theorem xs_GBatch (ρ : Operand → Value) (dst : Option Tmp) (x y : Operand) (ty : TypeId) (pos : String) (after : Array Edge) (guard : Option (Nat × Bool)) : execOp ρ { dst, op := .store 54 x y, type := ty, pos, after, guard } = (do gStore 54 (ρ x) (ρ y); pure .skip) := ex_store ..
@[go_sem ↓ high] theorem xb_GBatch (ρ : Operand → Value) (dst : Option Tmp) (x : Operand) (ty : TypeId) (pos : String) (after : Array Edge) (guard : Option (Nat × Bool)) : execOp ρ { dst, op := .box 54 x, type := ty, pos, after, guard } = (do pure (.value (← gBox 54 (ρ x)))) := ex_box ..
@[go_sem ↓ high] theorem xa_GBatch (ρ : Operand → Value) (dst : Option Tmp) (ty : TypeId) (pos : String) (after : Array Edge) (guard : Option (Nat × Bool)) : execOp ρ { dst, op := .alloc 54, type := ty, pos, after, guard } = (do pure (.value (← gAlloc 54))) := ex_alloc ..
theorem ag54 : aggT Tryz.prog 54 = true := by kernel_rfl
theorem sz54 : sizeT Tryz.prog 54 = 5 := by kernel_rfl
section
variable (w : World)
@[go_sem ↓ high] theorem ld_GBatch (a : Addr) : (gLoad 54 (.pointer (some a))).run Tryz.prog w = ofOpt ((get? GBatch w a).map GBatch.val) w (noLoad Tryz.prog 54 a w) := by
  unfold gLoad; exact run_loadAt_opt ag54 sz54 GBatch.val GBatch.val_eq
@[go_sem ↓ high] theorem st_GBatch (a : Addr) (x : GBatch) : (gStore 54 (.pointer (some a)) (GBatch.val x)).run Tryz.prog w = okU' ((get? GBatch w a).isSome && blkFree w a.block) (World.putCells w a (GBatch.enc x)) (noStore Tryz.prog 54 (.pointer (some a)) (GBatch.val x) w) := run_gStore_any sz54 GBatch.val GBatch.val_eq w a x
@[go_sem ↓ high] theorem bx_GBatch (x : GBatch) : (gBox 54 (GBatch.val x)).run Tryz.prog w = .ok (.pointer (some ⟨w.heap.size, 0, none⟩)) (w.alloc (.cells (GBatch.enc x).toArray 54)) := by
  rw [GBatch.val_eq]; exact run_gBox _ w
end
theorem lk54_0 (x : GBatch) : x.enc[0]? = some (.int .i64 x.epoch) := by
  simp [GBatch.enc, List.getElem?_append]
theorem lk54_1 (x : GBatch) : x.enc[1]? = some (.int .u64 x.time) := by
  simp [GBatch.enc, List.getElem?_append]
theorem lk54_2 (x : GBatch) : x.enc[2]? = some (x.promises.val) := by
  simp [GBatch.enc, List.getElem?_append]
theorem lk54_3 (x : GBatch) : x.enc[3]? = some (x.openings.val) := by
  simp [GBatch.enc, List.getElem?_append]
theorem lk54_4 (x : GBatch) : x.enc[4]? = some (x.tombs.val) := by
  simp [GBatch.enc, List.getElem?_append]
theorem zr54 : zeroT Tryz.prog 54 = some (.agg (GBatch.enc default).toArray) := by kernel_rfl
@[go_sem ↓ high] theorem al_GBatch (w : World) : (gAlloc 54).run Tryz.prog w = .ok (.pointer (some ⟨w.heap.size, 0, none⟩)) (w.alloc (.cells (GBatch.enc default).toArray 54)) := run_zero_alloc zr54 w
theorem GBatch.at_epoch {w : World} {a : Addr} {x : GBatch} (h : get? GBatch w a = some x) : w.cell? (a.add 0) = some (.int .i64 x.epoch) := (get?_iff.1 h) _ _ (lk54_0 x)
theorem GBatch.at_time {w : World} {a : Addr} {x : GBatch} (h : get? GBatch w a = some x) : w.cell? (a.add 1) = some (.int .u64 x.time) := (get?_iff.1 h) _ _ (lk54_1 x)
theorem GBatch.at_promises {w : World} {a : Addr} {x : GBatch} (h : get? GBatch w a = some x) : w.cell? (a.add 2) = some (x.promises.val) := (get?_iff.1 h) _ _ (lk54_2 x)
theorem GBatch.at_openings {w : World} {a : Addr} {x : GBatch} (h : get? GBatch w a = some x) : w.cell? (a.add 3) = some (x.openings.val) := (get?_iff.1 h) _ _ (lk54_3 x)
theorem GBatch.at_tombs {w : World} {a : Addr} {x : GBatch} (h : get? GBatch w a = some x) : w.cell? (a.add 4) = some (x.tombs.val) := (get?_iff.1 h) _ _ (lk54_4 x)
/-! ### gavel/api.Sig -/
structure GSig where
  by_ : Int
  mark : Int
deriving DecidableEq
instance : Inhabited GSig := ⟨⟨0, 0⟩⟩
def GSig.enc (x : GSig) : List Value := [(.int .i64 x.by_)] ++ ([(.int .i64 x.mark)])
theorem GSig.enc_len (x : GSig) : x.enc.length = 2 := by simp [GSig.enc]
theorem GSig.enc_one (x : GSig) : ∀ u ∈ x.enc, u.oneCell' = true := by
  intro u hu
  simp only [GSig.enc, List.mem_append, List.mem_singleton] at hu
  rcases hu with hu | hu
  · subst hu; rfl
  · subst hu; rfl
theorem GSig.enc_inj (x y : GSig) (h : x.enc = y.enc) : x = y := by
  obtain ⟨a0, a1⟩ := x
  obtain ⟨b0, b1⟩ := y
  simp only [GSig.enc] at h
  obtain ⟨p0, q0⟩ := List.append_inj h (rfl)
  have e0 : a0 = b0 := by have := List.head_eq_of_cons_eq p0; injection this
  have e1 : a1 = b1 := by have := List.head_eq_of_cons_eq q0; injection this
  rw [e0, e1]
instance : Enc GSig where
  n := 2
  enc := GSig.enc
  pos := by omega
  len := GSig.enc_len
  one := GSig.enc_one
  inj := GSig.enc_inj
@[go_sem] theorem GSig.n_eq : Enc.n GSig = 2 := rfl
@[irreducible] def GSig.val (x : GSig) : Value := .agg x.enc.toArray
theorem GSig.val_eq (x : GSig) : GSig.val x = .agg (Enc.enc x).toArray := by unfold GSig.val; rfl
theorem GSig.ext_all (x y : GSig) : x = y ↔ x.by_ = y.by_ ∧ x.mark = y.mark := by
  constructor
  · intro h; cases h; simp
  · intro h; cases x; cases y; simp_all
theorem uu37 : Tryz.prog.underlying 37 = some (.struct (Tryz.prog.fieldsOf 37)) := by kernel_rfl
theorem st37 : Tryz.prog.stoodInHeld 37 = false := by kernel_rfl
theorem fl37 : fieldTO Tryz.prog 37 = [(3, 0), (3, 1)] := by kernel_rfl
theorem nb37 : noBlank Tryz.prog 37 = true := by kernel_rfl
@[go_sem ↓ high] theorem xl_GSig (ρ : Operand → Value) (dst : Option Tmp) (x : Operand) (ty : TypeId) (pos : String) (after : Array Edge) (guard : Option (Nat × Bool)) : execOp ρ { dst, op := .load 37 x, type := ty, pos, after, guard } = (do pure (.value (← gLoad 37 (ρ x)))) := ex_load ..
@[go_sem ↓ high] theorem xs_GSig (ρ : Operand → Value) (dst : Option Tmp) (x y : Operand) (ty : TypeId) (pos : String) (after : Array Edge) (guard : Option (Nat × Bool)) : execOp ρ { dst, op := .store 37 x y, type := ty, pos, after, guard } = (do gStore 37 (ρ x) (ρ y); pure .skip) := ex_store ..
@[go_sem ↓ high] theorem xb_GSig (ρ : Operand → Value) (dst : Option Tmp) (x : Operand) (ty : TypeId) (pos : String) (after : Array Edge) (guard : Option (Nat × Bool)) : execOp ρ { dst, op := .box 37 x, type := ty, pos, after, guard } = (do pure (.value (← gBox 37 (ρ x)))) := ex_box ..
@[go_sem ↓ high] theorem xa_GSig (ρ : Operand → Value) (dst : Option Tmp) (ty : TypeId) (pos : String) (after : Array Edge) (guard : Option (Nat × Bool)) : execOp ρ { dst, op := .alloc 37, type := ty, pos, after, guard } = (do pure (.value (← gAlloc 37))) := ex_alloc ..
theorem ag37 : aggT Tryz.prog 37 = true := by kernel_rfl
theorem sz37 : sizeT Tryz.prog 37 = 2 := by kernel_rfl
section
variable (w : World)
@[go_sem ↓ high] theorem ld_GSig (a : Addr) : (gLoad 37 (.pointer (some a))).run Tryz.prog w = ofOpt ((get? GSig w a).map GSig.val) w (noLoad Tryz.prog 37 a w) := by
  unfold gLoad; exact run_loadAt_opt ag37 sz37 GSig.val GSig.val_eq
@[go_sem ↓ high] theorem st_GSig (a : Addr) (x : GSig) : (gStore 37 (.pointer (some a)) (GSig.val x)).run Tryz.prog w = okU' ((get? GSig w a).isSome && blkFree w a.block) (World.putCells w a (GSig.enc x)) (noStore Tryz.prog 37 (.pointer (some a)) (GSig.val x) w) := run_gStore_any sz37 GSig.val GSig.val_eq w a x
@[go_sem ↓ high] theorem bx_GSig (x : GSig) : (gBox 37 (GSig.val x)).run Tryz.prog w = .ok (.pointer (some ⟨w.heap.size, 0, none⟩)) (w.alloc (.cells (GSig.enc x).toArray 37)) := by
  rw [GSig.val_eq]; exact run_gBox _ w
end
theorem lk37_0 (x : GSig) : x.enc[0]? = some (.int .i64 x.by_) := by
  simp [GSig.enc, List.getElem?_append]
theorem pt37_0 (w : World) (x : GSig) : (part 3 x.enc.toArray 0).run Tryz.prog w = .ok (.int .i64 x.by_) w := run_part_one na3 us3 (lk37_0 x)
theorem lk37_1 (x : GSig) : x.enc[1]? = some (.int .i64 x.mark) := by
  simp [GSig.enc, List.getElem?_append]
theorem pt37_1 (w : World) (x : GSig) : (part 3 x.enc.toArray 1).run Tryz.prog w = .ok (.int .i64 x.mark) w := run_part_one na3 us3 (lk37_1 x)
theorem zr37 : zeroT Tryz.prog 37 = some (.agg (GSig.enc default).toArray) := by kernel_rfl
@[go_sem ↓ high] theorem al_GSig (w : World) : (gAlloc 37).run Tryz.prog w = .ok (.pointer (some ⟨w.heap.size, 0, none⟩)) (w.alloc (.cells (GSig.enc default).toArray 37)) := run_zero_alloc zr37 w
theorem GSig.at_by_ {w : World} {a : Addr} {x : GSig} (h : get? GSig w a = some x) : w.cell? (a.add 0) = some (.int .i64 x.by_) := (get?_iff.1 h) _ _ (lk37_0 x)
theorem GSig.at_mark {w : World} {a : Addr} {x : GSig} (h : get? GSig w a = some x) : w.cell? (a.add 1) = some (.int .i64 x.mark) := (get?_iff.1 h) _ _ (lk37_1 x)
theorem pl37 : ((Tryz.prog.fieldsOf 37).toList.mapM fun f => (Tryz.prog.info? f.type).map fun i => (f.offset, i.size)) = some [(0, 1), (1, 1)] := by kernel_rfl
theorem fs37_0 (x : GSig) (v : Int) (rest : List (Nat × Value)) : Instr.fill (fun i => ([(0, 1), (1, 1)] : List (Nat × Nat))[i]?) x.enc.toArray ((0, (.int .i64 v)) :: rest) = Instr.fill (fun i => ([(0, 1), (1, 1)] : List (Nat × Nat))[i]?) ({ x with by_ := v } : GSig).enc.toArray rest := by
  have h := fill_seg [(0, 1), (1, 1)] 0 0 1 rfl (([] : List Value)) ([(.int .i64 x.by_)]) ([(.int .i64 x.mark)] ++ (([] : List Value))) ([(.int .i64 v)]) (.int .i64 v) rest (rfl) (by simp) (by simp) (by simp)
  have e1 : x.enc = (([] : List Value)) ++ ([(.int .i64 x.by_)] ++ ([(.int .i64 x.mark)] ++ (([] : List Value)))) := by simp only [GSig.enc, List.nil_append, List.append_assoc, List.append_nil]
  have e2 : ({ x with by_ := v } : GSig).enc = (([] : List Value)) ++ ([(.int .i64 v)] ++ ([(.int .i64 x.mark)] ++ (([] : List Value)))) := by simp only [GSig.enc, List.nil_append, List.append_assoc, List.append_nil]
  rw [e1, e2]; exact h
theorem fs37_1 (x : GSig) (v : Int) (rest : List (Nat × Value)) : Instr.fill (fun i => ([(0, 1), (1, 1)] : List (Nat × Nat))[i]?) x.enc.toArray ((1, (.int .i64 v)) :: rest) = Instr.fill (fun i => ([(0, 1), (1, 1)] : List (Nat × Nat))[i]?) ({ x with mark := v } : GSig).enc.toArray rest := by
  have h := fill_seg [(0, 1), (1, 1)] 1 1 1 rfl (([] : List Value) ++ ([(.int .i64 x.by_)])) ([(.int .i64 x.mark)]) (([] : List Value)) ([(.int .i64 v)]) (.int .i64 v) rest (rfl) (by simp) (by simp) (by simp)
  have e1 : x.enc = (([] : List Value) ++ ([(.int .i64 x.by_)])) ++ ([(.int .i64 x.mark)] ++ (([] : List Value))) := by simp only [GSig.enc, List.nil_append, List.append_assoc, List.append_nil]
  have e2 : ({ x with mark := v } : GSig).enc = (([] : List Value) ++ ([(.int .i64 x.by_)])) ++ ([(.int .i64 v)] ++ (([] : List Value))) := by simp only [GSig.enc, List.nil_append, List.append_assoc, List.append_nil]
  rw [e1, e2]; exact h
@[go_sem ↓ high] theorem xd_GSig (ρ : Operand → Value) (dst : Option Tmp) (ps : Array (Nat × Operand)) (ty : TypeId) (pos : String) (after : Array Edge) (guard : Option (Nat × Bool)) : execOp ρ { dst, op := .build 37 ps, type := ty, pos, after, guard } = (do pure (.value (← gBuild 37 (ps.map fun (i, x) => (i, ρ x))))) := ex_build ..
@[go_sem ↓ high] theorem bd37_0 (w : World) (v0 : Int) (v1 : Int) : (gBuild 37 #[(0, (.int .i64 v0)), (1, (.int .i64 v1))]).run Tryz.prog w = .ok (GSig.val ⟨v0, v1⟩) w := by
  rw [GSig.val_eq]
  refine run_gBuild_of uu37 zr37 pl37 ?_ w
  show Instr.fill _ (GSig.enc default).toArray [(0, (.int .i64 v0)), (1, (.int .i64 v1))] = _
  rw [fs37_0, fs37_1]; rfl
theorem eq_GSig (w : World) (d : Nat) (x y : GSig) : (Op.equalIn (d + 2) 37 (GSig.val x) (GSig.val y)).run Tryz.prog w = .ok (decide (x = y)) w := by
  have q0 : ∀ a b, (Op.equalIn (d + 1) 3 (.int .i64 a) (.int .i64 b)).run Tryz.prog w = .ok (decide (a = b)) w := fun a b => by rw [run_equalIn_int w (d + 0) 3 .i64 .i64 a b uk3]; congr 1
  have q1 : ∀ a b, (Op.equalIn (d + 1) 3 (.int .i64 a) (.int .i64 b)).run Tryz.prog w = .ok (decide (a = b)) w := fun a b => by rw [run_equalIn_int w (d + 0) 3 .i64 .i64 a b uk3]; congr 1
  have h := run_equalIn_fields (d + 1) x.enc.toArray y.enc.toArray w uu37 st37 nb37
  rw [fl37] at h
  unfold GSig.val
  refine h.trans ?_
  clear h
  simp only [eqFs, Sem.run_bind, pt37_0, pt37_1, q0, q1, Result.andThen_ok, Sem.run_ite, Sem.run_pure]
  have he : decide (x = y) = (decide (x.by_ = y.by_) && (decide (x.mark = y.mark))) := by
    rw [Bool.eq_iff_iff]; simp only [Bool.and_eq_true, decide_eq_true_eq]; exact GSig.ext_all x y
  rw [he]
  generalize decide (x.by_ = y.by_) = c0; generalize decide (x.mark = y.mark) = c1
  cases c0 <;> cases c1 <;> simp
@[go_sem ↓ high] theorem xq_GSig (ρ : Operand → Value) (dst : Option Tmp) (x y : Operand) (ty yt : TypeId) (pos : String) (after : Array Edge) (guard : Option (Nat × Bool)) : execOp ρ { dst, op := .binOp .eql 37 x y yt, type := ty, pos, after, guard } = (do pure (.value (← gBin .eql 37 x y (ρ x) (ρ y)))) := ex_eql ..
theorem eg_GSig : Tryz.prog.eqGuardType Tryz.prog.depth 37 = false := by kernel_rfl
@[go_sem ↓ high] theorem eql_GSig (w : World) (ox oy : Operand) (x y : GSig) : (gBin .eql 37 ox oy (GSig.val x) (GSig.val y)).run Tryz.prog w = .ok (.bool (decide (x = y))) w := by
  have h2 := eq_GSig w 9998 x y
  rw [GSig.val_eq, GSig.val_eq] at h2 ⊢
  have h := run_eqGuard_agg (P := Tryz.prog) w .eql 37 ox oy (Enc.enc x).toArray (Enc.enc y).toArray eg_GSig
  unfold gBin
  simp only [Sem.run_bind, h, Result.andThen_ok, run_eql_struct, h2]
/-! ### gavel/api.Promise -/
structure GPromise where
  replica : Int
  epoch : Int
  floor : Int
  certs : Hdr
  sig : GSig
deriving DecidableEq
instance : Inhabited GPromise := ⟨⟨0, 0, 0, default, default⟩⟩
def GPromise.enc (x : GPromise) : List Value := [(.int .i64 x.replica)] ++ ([(.int .i64 x.epoch)] ++ ([(.int .u64 x.floor)] ++ ([(x.certs.val)] ++ (x.sig.enc))))
theorem GPromise.enc_len (x : GPromise) : x.enc.length = 6 := by simp [GPromise.enc, GSig.enc_len]
theorem GPromise.enc_one (x : GPromise) : ∀ u ∈ x.enc, u.oneCell' = true := by
  intro u hu
  simp only [GPromise.enc, List.mem_append, List.mem_singleton] at hu
  rcases hu with hu | hu | hu | hu | hu
  · subst hu; rfl
  · subst hu; rfl
  · subst hu; rfl
  · subst hu; rfl
  · exact Enc.one (α := GSig) _ _ hu
theorem GPromise.enc_inj (x y : GPromise) (h : x.enc = y.enc) : x = y := by
  obtain ⟨a0, a1, a2, a3, a4⟩ := x
  obtain ⟨b0, b1, b2, b3, b4⟩ := y
  simp only [GPromise.enc] at h
  obtain ⟨p0, q0⟩ := List.append_inj h (rfl)
  have e0 : a0 = b0 := by have := List.head_eq_of_cons_eq p0; injection this
  obtain ⟨p1, q1⟩ := List.append_inj q0 (rfl)
  have e1 : a1 = b1 := by have := List.head_eq_of_cons_eq p1; injection this
  obtain ⟨p2, q2⟩ := List.append_inj q1 (rfl)
  have e2 : a2 = b2 := by have := List.head_eq_of_cons_eq p2; injection this
  obtain ⟨p3, q3⟩ := List.append_inj q2 (rfl)
  have e3 : a3 = b3 := Enc.inj (α := Hdr) _ _ p3
  have e4 := Enc.inj (α := GSig) _ _ q3
  rw [e0, e1, e2, e3, e4]
instance : Enc GPromise where
  n := 6
  enc := GPromise.enc
  pos := by omega
  len := GPromise.enc_len
  one := GPromise.enc_one
  inj := GPromise.enc_inj
@[go_sem] theorem GPromise.n_eq : Enc.n GPromise = 6 := rfl
@[irreducible] def GPromise.val (x : GPromise) : Value := .agg x.enc.toArray
theorem GPromise.val_eq (x : GPromise) : GPromise.val x = .agg (Enc.enc x).toArray := by unfold GPromise.val; rfl
theorem uu49 : Tryz.prog.underlying 49 = some (.struct (Tryz.prog.fieldsOf 49)) := by kernel_rfl
@[go_sem ↓ high] theorem xl_GPromise (ρ : Operand → Value) (dst : Option Tmp) (x : Operand) (ty : TypeId) (pos : String) (after : Array Edge) (guard : Option (Nat × Bool)) : execOp ρ { dst, op := .load 49 x, type := ty, pos, after, guard } = (do pure (.value (← gLoad 49 (ρ x)))) := ex_load ..
@[go_sem ↓ high] theorem xs_GPromise (ρ : Operand → Value) (dst : Option Tmp) (x y : Operand) (ty : TypeId) (pos : String) (after : Array Edge) (guard : Option (Nat × Bool)) : execOp ρ { dst, op := .store 49 x y, type := ty, pos, after, guard } = (do gStore 49 (ρ x) (ρ y); pure .skip) := ex_store ..
@[go_sem ↓ high] theorem xb_GPromise (ρ : Operand → Value) (dst : Option Tmp) (x : Operand) (ty : TypeId) (pos : String) (after : Array Edge) (guard : Option (Nat × Bool)) : execOp ρ { dst, op := .box 49 x, type := ty, pos, after, guard } = (do pure (.value (← gBox 49 (ρ x)))) := ex_box ..
@[go_sem ↓ high] theorem xa_GPromise (ρ : Operand → Value) (dst : Option Tmp) (ty : TypeId) (pos : String) (after : Array Edge) (guard : Option (Nat × Bool)) : execOp ρ { dst, op := .alloc 49, type := ty, pos, after, guard } = (do pure (.value (← gAlloc 49))) := ex_alloc ..
theorem ag49 : aggT Tryz.prog 49 = true := by kernel_rfl
theorem sz49 : sizeT Tryz.prog 49 = 6 := by kernel_rfl
section
variable (w : World)
@[go_sem ↓ high] theorem ld_GPromise (a : Addr) : (gLoad 49 (.pointer (some a))).run Tryz.prog w = ofOpt ((get? GPromise w a).map GPromise.val) w (noLoad Tryz.prog 49 a w) := by
  unfold gLoad; exact run_loadAt_opt ag49 sz49 GPromise.val GPromise.val_eq
@[go_sem ↓ high] theorem st_GPromise (a : Addr) (x : GPromise) : (gStore 49 (.pointer (some a)) (GPromise.val x)).run Tryz.prog w = okU' ((get? GPromise w a).isSome && blkFree w a.block) (World.putCells w a (GPromise.enc x)) (noStore Tryz.prog 49 (.pointer (some a)) (GPromise.val x) w) := run_gStore_any sz49 GPromise.val GPromise.val_eq w a x
@[go_sem ↓ high] theorem bx_GPromise (x : GPromise) : (gBox 49 (GPromise.val x)).run Tryz.prog w = .ok (.pointer (some ⟨w.heap.size, 0, none⟩)) (w.alloc (.cells (GPromise.enc x).toArray 49)) := by
  rw [GPromise.val_eq]; exact run_gBox _ w
end
theorem lk49_0 (x : GPromise) : x.enc[0]? = some (.int .i64 x.replica) := by
  simp [GPromise.enc, List.getElem?_append]
theorem lk49_1 (x : GPromise) : x.enc[1]? = some (.int .i64 x.epoch) := by
  simp [GPromise.enc, List.getElem?_append]
theorem lk49_2 (x : GPromise) : x.enc[2]? = some (.int .u64 x.floor) := by
  simp [GPromise.enc, List.getElem?_append]
theorem lk49_3 (x : GPromise) : x.enc[3]? = some (x.certs.val) := by
  simp [GPromise.enc, List.getElem?_append]
theorem ds49_4 (x : GPromise) : (x.enc.drop 4).take 2 = x.sig.enc := by
  unfold GPromise.enc
  simp [List.drop_append, List.drop_eq_nil_of_le] <;> (exact List.take_of_length_le (by simp [GSig.enc_len]))
theorem zr49 : zeroT Tryz.prog 49 = some (.agg (GPromise.enc default).toArray) := by kernel_rfl
@[go_sem ↓ high] theorem al_GPromise (w : World) : (gAlloc 49).run Tryz.prog w = .ok (.pointer (some ⟨w.heap.size, 0, none⟩)) (w.alloc (.cells (GPromise.enc default).toArray 49)) := run_zero_alloc zr49 w
@[go_sem] theorem pc_GPromise (w : World) (n : Nat) (x z : GPromise) (hn : n = w.heap.size) : World.putCells (w.alloc (.cells (GPromise.enc z).toArray 49)) ⟨n, 0, none⟩ (GPromise.enc x) = w.alloc (.cells (GPromise.enc x).toArray 49) := putCells_top x z hn
theorem GPromise.at_replica {w : World} {a : Addr} {x : GPromise} (h : get? GPromise w a = some x) : w.cell? (a.add 0) = some (.int .i64 x.replica) := (get?_iff.1 h) _ _ (lk49_0 x)
theorem GPromise.at_epoch {w : World} {a : Addr} {x : GPromise} (h : get? GPromise w a = some x) : w.cell? (a.add 1) = some (.int .i64 x.epoch) := (get?_iff.1 h) _ _ (lk49_1 x)
theorem GPromise.at_floor {w : World} {a : Addr} {x : GPromise} (h : get? GPromise w a = some x) : w.cell? (a.add 2) = some (.int .u64 x.floor) := (get?_iff.1 h) _ _ (lk49_2 x)
theorem GPromise.at_certs {w : World} {a : Addr} {x : GPromise} (h : get? GPromise w a = some x) : w.cell? (a.add 3) = some (x.certs.val) := (get?_iff.1 h) _ _ (lk49_3 x)
theorem GPromise.at_sig {w : World} {a : Addr} {x : GPromise} (h : get? GPromise w a = some x) : get? GSig w (a.add 4) = some x.sig := by
  rw [get?_iff] at h ⊢
  refine h.sub 4 fun j v hv => ?_
  have hd := ds49_4 x
  have hj : j < 2 := by have := (List.getElem?_eq_some_iff.1 hv).1; rwa [Enc.len] at this
  show x.enc[4 + j]? = some v
  rw [← List.getElem?_drop, ← List.getElem?_take_of_lt hj, hd]; exact hv
@[go_sem] theorem nw49 (w : World) (n : Nat) (x : GPromise) (hn : n = w.heap.size) : get? GPromise (w.alloc (.cells (GPromise.enc x).toArray 49)) ⟨n, 0, none⟩ = some x := by
  subst hn; exact get?_new 49 x
theorem pl49 : ((Tryz.prog.fieldsOf 49).toList.mapM fun f => (Tryz.prog.info? f.type).map fun i => (f.offset, i.size)) = some [(0, 1), (1, 1), (2, 1), (3, 1), (4, 2)] := by kernel_rfl
theorem fs49_0 (x : GPromise) (v : Int) (rest : List (Nat × Value)) : Instr.fill (fun i => ([(0, 1), (1, 1), (2, 1), (3, 1), (4, 2)] : List (Nat × Nat))[i]?) x.enc.toArray ((0, (.int .i64 v)) :: rest) = Instr.fill (fun i => ([(0, 1), (1, 1), (2, 1), (3, 1), (4, 2)] : List (Nat × Nat))[i]?) ({ x with replica := v } : GPromise).enc.toArray rest := by
  have h := fill_seg [(0, 1), (1, 1), (2, 1), (3, 1), (4, 2)] 0 0 1 rfl (([] : List Value)) ([(.int .i64 x.replica)]) ([(.int .i64 x.epoch)] ++ ([(.int .u64 x.floor)] ++ ([(x.certs.val)] ++ (x.sig.enc ++ (([] : List Value)))))) ([(.int .i64 v)]) (.int .i64 v) rest (rfl) (by simp [GSig.enc_len]) (by simp [GSig.enc_len]) (by simp [GSig.enc_len])
  have e1 : x.enc = (([] : List Value)) ++ ([(.int .i64 x.replica)] ++ ([(.int .i64 x.epoch)] ++ ([(.int .u64 x.floor)] ++ ([(x.certs.val)] ++ (x.sig.enc ++ (([] : List Value))))))) := by simp only [GPromise.enc, List.nil_append, List.append_assoc, List.append_nil]
  have e2 : ({ x with replica := v } : GPromise).enc = (([] : List Value)) ++ ([(.int .i64 v)] ++ ([(.int .i64 x.epoch)] ++ ([(.int .u64 x.floor)] ++ ([(x.certs.val)] ++ (x.sig.enc ++ (([] : List Value))))))) := by simp only [GPromise.enc, List.nil_append, List.append_assoc, List.append_nil]
  rw [e1, e2]; exact h
theorem fs49_1 (x : GPromise) (v : Int) (rest : List (Nat × Value)) : Instr.fill (fun i => ([(0, 1), (1, 1), (2, 1), (3, 1), (4, 2)] : List (Nat × Nat))[i]?) x.enc.toArray ((1, (.int .i64 v)) :: rest) = Instr.fill (fun i => ([(0, 1), (1, 1), (2, 1), (3, 1), (4, 2)] : List (Nat × Nat))[i]?) ({ x with epoch := v } : GPromise).enc.toArray rest := by
  have h := fill_seg [(0, 1), (1, 1), (2, 1), (3, 1), (4, 2)] 1 1 1 rfl (([] : List Value) ++ ([(.int .i64 x.replica)])) ([(.int .i64 x.epoch)]) ([(.int .u64 x.floor)] ++ ([(x.certs.val)] ++ (x.sig.enc ++ (([] : List Value))))) ([(.int .i64 v)]) (.int .i64 v) rest (rfl) (by simp [GSig.enc_len]) (by simp [GSig.enc_len]) (by simp [GSig.enc_len])
  have e1 : x.enc = (([] : List Value) ++ ([(.int .i64 x.replica)])) ++ ([(.int .i64 x.epoch)] ++ ([(.int .u64 x.floor)] ++ ([(x.certs.val)] ++ (x.sig.enc ++ (([] : List Value)))))) := by simp only [GPromise.enc, List.nil_append, List.append_assoc, List.append_nil]
  have e2 : ({ x with epoch := v } : GPromise).enc = (([] : List Value) ++ ([(.int .i64 x.replica)])) ++ ([(.int .i64 v)] ++ ([(.int .u64 x.floor)] ++ ([(x.certs.val)] ++ (x.sig.enc ++ (([] : List Value)))))) := by simp only [GPromise.enc, List.nil_append, List.append_assoc, List.append_nil]
  rw [e1, e2]; exact h
theorem fs49_2 (x : GPromise) (v : Int) (rest : List (Nat × Value)) : Instr.fill (fun i => ([(0, 1), (1, 1), (2, 1), (3, 1), (4, 2)] : List (Nat × Nat))[i]?) x.enc.toArray ((2, (.int .u64 v)) :: rest) = Instr.fill (fun i => ([(0, 1), (1, 1), (2, 1), (3, 1), (4, 2)] : List (Nat × Nat))[i]?) ({ x with floor := v } : GPromise).enc.toArray rest := by
  have h := fill_seg [(0, 1), (1, 1), (2, 1), (3, 1), (4, 2)] 2 2 1 rfl (([] : List Value) ++ ([(.int .i64 x.replica)] ++ ([(.int .i64 x.epoch)]))) ([(.int .u64 x.floor)]) ([(x.certs.val)] ++ (x.sig.enc ++ (([] : List Value)))) ([(.int .u64 v)]) (.int .u64 v) rest (rfl) (by simp [GSig.enc_len]) (by simp [GSig.enc_len]) (by simp [GSig.enc_len])
  have e1 : x.enc = (([] : List Value) ++ ([(.int .i64 x.replica)] ++ ([(.int .i64 x.epoch)]))) ++ ([(.int .u64 x.floor)] ++ ([(x.certs.val)] ++ (x.sig.enc ++ (([] : List Value))))) := by simp only [GPromise.enc, List.nil_append, List.append_assoc, List.append_nil]
  have e2 : ({ x with floor := v } : GPromise).enc = (([] : List Value) ++ ([(.int .i64 x.replica)] ++ ([(.int .i64 x.epoch)]))) ++ ([(.int .u64 v)] ++ ([(x.certs.val)] ++ (x.sig.enc ++ (([] : List Value))))) := by simp only [GPromise.enc, List.nil_append, List.append_assoc, List.append_nil]
  rw [e1, e2]; exact h
@[go_sem ↓ high] theorem xd_GPromise (ρ : Operand → Value) (dst : Option Tmp) (ps : Array (Nat × Operand)) (ty : TypeId) (pos : String) (after : Array Edge) (guard : Option (Nat × Bool)) : execOp ρ { dst, op := .build 49 ps, type := ty, pos, after, guard } = (do pure (.value (← gBuild 49 (ps.map fun (i, x) => (i, ρ x))))) := ex_build ..
@[go_sem ↓ high] theorem bd49_0 (w : World) (v0 : Int) (v1 : Int) (v2 : Int) : (gBuild 49 #[(0, (.int .i64 v0)), (1, (.int .i64 v1)), (2, (.int .u64 v2))]).run Tryz.prog w = .ok (GPromise.val ⟨v0, v1, v2, default, default⟩) w := by
  rw [GPromise.val_eq]
  refine run_gBuild_of uu49 zr49 pl49 ?_ w
  show Instr.fill _ (GPromise.enc default).toArray [(0, (.int .i64 v0)), (1, (.int .i64 v1)), (2, (.int .u64 v2))] = _
  rw [fs49_0, fs49_1, fs49_2]; rfl

/-! ### gavel/api.Opening -/
structure GOpening where
  index : Int
  payload : Hdr
  nonce : GHash
deriving DecidableEq
instance : Inhabited GOpening := ⟨⟨0, default, default⟩⟩
def GOpening.enc (x : GOpening) : List Value := [(.int .i64 x.index)] ++ ([(x.payload.val)] ++ (x.nonce.enc))
theorem GOpening.enc_len (x : GOpening) : x.enc.length = 34 := by simp [GOpening.enc, GHash.enc_len]
theorem GOpening.enc_one (x : GOpening) : ∀ u ∈ x.enc, u.oneCell' = true := by
  intro u hu
  simp only [GOpening.enc, List.mem_append, List.mem_singleton] at hu
  rcases hu with hu | hu | hu
  · subst hu; rfl
  · subst hu; rfl
  · exact Enc.one (α := GHash) _ _ hu
theorem GOpening.enc_inj (x y : GOpening) (h : x.enc = y.enc) : x = y := by
  obtain ⟨a0, a1, a2⟩ := x
  obtain ⟨b0, b1, b2⟩ := y
  simp only [GOpening.enc] at h
  obtain ⟨p0, q0⟩ := List.append_inj h (rfl)
  have e0 : a0 = b0 := by have := List.head_eq_of_cons_eq p0; injection this
  obtain ⟨p1, q1⟩ := List.append_inj q0 (rfl)
  have e1 : a1 = b1 := Enc.inj (α := Hdr) _ _ p1
  have e2 := Enc.inj (α := GHash) _ _ q1
  rw [e0, e1, e2]
instance : Enc GOpening where
  n := 34
  enc := GOpening.enc
  pos := by omega
  len := GOpening.enc_len
  one := GOpening.enc_one
  inj := GOpening.enc_inj
@[go_sem] theorem GOpening.n_eq : Enc.n GOpening = 34 := rfl
@[irreducible] def GOpening.val (x : GOpening) : Value := .agg x.enc.toArray
theorem GOpening.val_eq (x : GOpening) : GOpening.val x = .agg (Enc.enc x).toArray := by unfold GOpening.val; rfl
@[go_sem ↓ high] theorem xl_GOpening (ρ : Operand → Value) (dst : Option Tmp) (x : Operand) (ty : TypeId) (pos : String) (after : Array Edge) (guard : Option (Nat × Bool)) : execOp ρ { dst, op := .load 63 x, type := ty, pos, after, guard } = (do pure (.value (← gLoad 63 (ρ x)))) := ex_load ..
@[go_sem ↓ high] theorem xs_GOpening (ρ : Operand → Value) (dst : Option Tmp) (x y : Operand) (ty : TypeId) (pos : String) (after : Array Edge) (guard : Option (Nat × Bool)) : execOp ρ { dst, op := .store 63 x y, type := ty, pos, after, guard } = (do gStore 63 (ρ x) (ρ y); pure .skip) := ex_store ..
@[go_sem ↓ high] theorem xb_GOpening (ρ : Operand → Value) (dst : Option Tmp) (x : Operand) (ty : TypeId) (pos : String) (after : Array Edge) (guard : Option (Nat × Bool)) : execOp ρ { dst, op := .box 63 x, type := ty, pos, after, guard } = (do pure (.value (← gBox 63 (ρ x)))) := ex_box ..
@[go_sem ↓ high] theorem xa_GOpening (ρ : Operand → Value) (dst : Option Tmp) (ty : TypeId) (pos : String) (after : Array Edge) (guard : Option (Nat × Bool)) : execOp ρ { dst, op := .alloc 63, type := ty, pos, after, guard } = (do pure (.value (← gAlloc 63))) := ex_alloc ..
theorem ag63 : aggT Tryz.prog 63 = true := by kernel_rfl
theorem sz63 : sizeT Tryz.prog 63 = 34 := by kernel_rfl
section
variable (w : World)
@[go_sem ↓ high] theorem ld_GOpening (a : Addr) : (gLoad 63 (.pointer (some a))).run Tryz.prog w = ofOpt ((get? GOpening w a).map GOpening.val) w (noLoad Tryz.prog 63 a w) := by
  unfold gLoad; exact run_loadAt_opt ag63 sz63 GOpening.val GOpening.val_eq
@[go_sem ↓ high] theorem st_GOpening (a : Addr) (x : GOpening) : (gStore 63 (.pointer (some a)) (GOpening.val x)).run Tryz.prog w = okU' ((get? GOpening w a).isSome && blkFree w a.block) (World.putCells w a (GOpening.enc x)) (noStore Tryz.prog 63 (.pointer (some a)) (GOpening.val x) w) := run_gStore_any sz63 GOpening.val GOpening.val_eq w a x
@[go_sem ↓ high] theorem bx_GOpening (x : GOpening) : (gBox 63 (GOpening.val x)).run Tryz.prog w = .ok (.pointer (some ⟨w.heap.size, 0, none⟩)) (w.alloc (.cells (GOpening.enc x).toArray 63)) := by
  rw [GOpening.val_eq]; exact run_gBox _ w
end
theorem lk63_0 (x : GOpening) : x.enc[0]? = some (.int .i64 x.index) := by
  simp [GOpening.enc, List.getElem?_append]
theorem lk63_1 (x : GOpening) : x.enc[1]? = some (x.payload.val) := by
  simp [GOpening.enc, List.getElem?_append]
theorem ds63_2 (x : GOpening) : (x.enc.drop 2).take 32 = x.nonce.enc := by
  unfold GOpening.enc
  simp [List.drop_append, List.drop_eq_nil_of_le] <;> (exact List.take_of_length_le (by simp [GHash.enc_len]))
theorem zr63 : zeroT Tryz.prog 63 = some (.agg (GOpening.enc default).toArray) := by kernel_rfl
@[go_sem ↓ high] theorem al_GOpening (w : World) : (gAlloc 63).run Tryz.prog w = .ok (.pointer (some ⟨w.heap.size, 0, none⟩)) (w.alloc (.cells (GOpening.enc default).toArray 63)) := run_zero_alloc zr63 w
theorem GOpening.at_index {w : World} {a : Addr} {x : GOpening} (h : get? GOpening w a = some x) : w.cell? (a.add 0) = some (.int .i64 x.index) := (get?_iff.1 h) _ _ (lk63_0 x)
theorem GOpening.at_payload {w : World} {a : Addr} {x : GOpening} (h : get? GOpening w a = some x) : w.cell? (a.add 1) = some (x.payload.val) := (get?_iff.1 h) _ _ (lk63_1 x)
theorem GOpening.at_nonce {w : World} {a : Addr} {x : GOpening} (h : get? GOpening w a = some x) : get? GHash w (a.add 2) = some x.nonce := by
  rw [get?_iff] at h ⊢
  refine h.sub 2 fun j v hv => ?_
  have hd := ds63_2 x
  have hj : j < 32 := by have := (List.getElem?_eq_some_iff.1 hv).1; rwa [Enc.len] at this
  show x.enc[2 + j]? = some v
  rw [← List.getElem?_drop, ← List.getElem?_take_of_lt hj, hd]; exact hv
/-! ### gavel/api.Tomb -/
structure GTomb where
  index : Int
  denies : Hdr
deriving DecidableEq
instance : Inhabited GTomb := ⟨⟨0, default⟩⟩
def GTomb.enc (x : GTomb) : List Value := [(.int .i64 x.index)] ++ ([(x.denies.val)])
theorem GTomb.enc_len (x : GTomb) : x.enc.length = 2 := by simp [GTomb.enc]
theorem GTomb.enc_one (x : GTomb) : ∀ u ∈ x.enc, u.oneCell' = true := by
  intro u hu
  simp only [GTomb.enc, List.mem_append, List.mem_singleton] at hu
  rcases hu with hu | hu
  · subst hu; rfl
  · subst hu; rfl
theorem GTomb.enc_inj (x y : GTomb) (h : x.enc = y.enc) : x = y := by
  obtain ⟨a0, a1⟩ := x
  obtain ⟨b0, b1⟩ := y
  simp only [GTomb.enc] at h
  obtain ⟨p0, q0⟩ := List.append_inj h (rfl)
  have e0 : a0 = b0 := by have := List.head_eq_of_cons_eq p0; injection this
  have e1 : a1 = b1 := Enc.inj (α := Hdr) _ _ q0
  rw [e0, e1]
instance : Enc GTomb where
  n := 2
  enc := GTomb.enc
  pos := by omega
  len := GTomb.enc_len
  one := GTomb.enc_one
  inj := GTomb.enc_inj
@[go_sem] theorem GTomb.n_eq : Enc.n GTomb = 2 := rfl
@[irreducible] def GTomb.val (x : GTomb) : Value := .agg x.enc.toArray
section
variable (w : World)
end
/-! ### gavel/api.Commit -/
structure GCommit where
  name : GName
  hash : GHash
  len : Int
  sig : GSig
deriving DecidableEq
instance : Inhabited GCommit := ⟨⟨default, default, 0, default⟩⟩
def GCommit.enc (x : GCommit) : List Value := x.name.enc ++ (x.hash.enc ++ ([(.int .i64 x.len)] ++ (x.sig.enc)))
theorem GCommit.enc_len (x : GCommit) : x.enc.length = 37 := by simp [GCommit.enc, GHash.enc_len, GName.enc_len, GSig.enc_len]
theorem GCommit.enc_one (x : GCommit) : ∀ u ∈ x.enc, u.oneCell' = true := by
  intro u hu
  simp only [GCommit.enc, List.mem_append, List.mem_singleton] at hu
  rcases hu with hu | hu | hu | hu
  · exact Enc.one (α := GName) _ _ hu
  · exact Enc.one (α := GHash) _ _ hu
  · subst hu; rfl
  · exact Enc.one (α := GSig) _ _ hu
theorem GCommit.enc_inj (x y : GCommit) (h : x.enc = y.enc) : x = y := by
  obtain ⟨a0, a1, a2, a3⟩ := x
  obtain ⟨b0, b1, b2, b3⟩ := y
  simp only [GCommit.enc] at h
  obtain ⟨p0, q0⟩ := List.append_inj h (by simp [GName.enc_len])
  have e0 := Enc.inj (α := GName) _ _ p0
  obtain ⟨p1, q1⟩ := List.append_inj q0 (by simp [GHash.enc_len])
  have e1 := Enc.inj (α := GHash) _ _ p1
  obtain ⟨p2, q2⟩ := List.append_inj q1 (rfl)
  have e2 : a2 = b2 := by have := List.head_eq_of_cons_eq p2; injection this
  have e3 := Enc.inj (α := GSig) _ _ q2
  rw [e0, e1, e2, e3]
instance : Enc GCommit where
  n := 37
  enc := GCommit.enc
  pos := by omega
  len := GCommit.enc_len
  one := GCommit.enc_one
  inj := GCommit.enc_inj
@[go_sem] theorem GCommit.n_eq : Enc.n GCommit = 37 := rfl
@[irreducible] def GCommit.val (x : GCommit) : Value := .agg x.enc.toArray
theorem GCommit.val_eq (x : GCommit) : GCommit.val x = .agg (Enc.enc x).toArray := by unfold GCommit.val; rfl
theorem GCommit.ext_all (x y : GCommit) : x = y ↔ x.name = y.name ∧ x.hash = y.hash ∧ x.len = y.len ∧ x.sig = y.sig := by
  constructor
  · intro h; cases h; simp
  · intro h; cases x; cases y; simp_all
theorem uu39 : Tryz.prog.underlying 39 = some (.struct (Tryz.prog.fieldsOf 39)) := by kernel_rfl
theorem st39 : Tryz.prog.stoodInHeld 39 = false := by kernel_rfl
theorem fl39 : fieldTO Tryz.prog 39 = [(33, 0), (35, 2), (3, 34), (37, 35)] := by kernel_rfl
theorem nb39 : noBlank Tryz.prog 39 = true := by kernel_rfl
@[go_sem ↓ high] theorem xl_GCommit (ρ : Operand → Value) (dst : Option Tmp) (x : Operand) (ty : TypeId) (pos : String) (after : Array Edge) (guard : Option (Nat × Bool)) : execOp ρ { dst, op := .load 39 x, type := ty, pos, after, guard } = (do pure (.value (← gLoad 39 (ρ x)))) := ex_load ..
@[go_sem ↓ high] theorem xs_GCommit (ρ : Operand → Value) (dst : Option Tmp) (x y : Operand) (ty : TypeId) (pos : String) (after : Array Edge) (guard : Option (Nat × Bool)) : execOp ρ { dst, op := .store 39 x y, type := ty, pos, after, guard } = (do gStore 39 (ρ x) (ρ y); pure .skip) := ex_store ..
@[go_sem ↓ high] theorem xb_GCommit (ρ : Operand → Value) (dst : Option Tmp) (x : Operand) (ty : TypeId) (pos : String) (after : Array Edge) (guard : Option (Nat × Bool)) : execOp ρ { dst, op := .box 39 x, type := ty, pos, after, guard } = (do pure (.value (← gBox 39 (ρ x)))) := ex_box ..
@[go_sem ↓ high] theorem xa_GCommit (ρ : Operand → Value) (dst : Option Tmp) (ty : TypeId) (pos : String) (after : Array Edge) (guard : Option (Nat × Bool)) : execOp ρ { dst, op := .alloc 39, type := ty, pos, after, guard } = (do pure (.value (← gAlloc 39))) := ex_alloc ..
theorem ag39 : aggT Tryz.prog 39 = true := by kernel_rfl
theorem sz39 : sizeT Tryz.prog 39 = 37 := by kernel_rfl
section
variable (w : World)
@[go_sem ↓ high] theorem ld_GCommit (a : Addr) : (gLoad 39 (.pointer (some a))).run Tryz.prog w = ofOpt ((get? GCommit w a).map GCommit.val) w (noLoad Tryz.prog 39 a w) := by
  unfold gLoad; exact run_loadAt_opt ag39 sz39 GCommit.val GCommit.val_eq
@[go_sem ↓ high] theorem st_GCommit (a : Addr) (x : GCommit) : (gStore 39 (.pointer (some a)) (GCommit.val x)).run Tryz.prog w = okU' ((get? GCommit w a).isSome && blkFree w a.block) (World.putCells w a (GCommit.enc x)) (noStore Tryz.prog 39 (.pointer (some a)) (GCommit.val x) w) := run_gStore_any sz39 GCommit.val GCommit.val_eq w a x
@[go_sem ↓ high] theorem bx_GCommit (x : GCommit) : (gBox 39 (GCommit.val x)).run Tryz.prog w = .ok (.pointer (some ⟨w.heap.size, 0, none⟩)) (w.alloc (.cells (GCommit.enc x).toArray 39)) := by
  rw [GCommit.val_eq]; exact run_gBox _ w
end
theorem ds39_0 (x : GCommit) : (x.enc.drop 0).take 2 = x.name.enc := by
  unfold GCommit.enc
  simp only [List.drop_zero] <;> (rw [List.take_append_of_le_length (by simp [GName.enc_len])]; exact List.take_of_length_le (by simp [GName.enc_len]))
theorem pt39_0 (w : World) (x : GCommit) : (part 33 x.enc.toArray 0).run Tryz.prog w = .ok (x.name.val) w := by
  have h := run_part_agg (P := Tryz.prog) (w := w) (cs := x.enc) (ds := x.name.enc) (off := 0) ag33 (by rw [GName.enc_len]; exact sz33) (by simp [GName.enc_len]) (by rw [GName.enc_len]; exact ds39_0 x)
  rw [h, GName.val_eq]; rfl
theorem ds39_1 (x : GCommit) : (x.enc.drop 2).take 32 = x.hash.enc := by
  unfold GCommit.enc
  simp [List.drop_append, List.drop_eq_nil_of_le, GName.enc_len] <;> (rw [List.take_append_of_le_length (by simp [GHash.enc_len])]; exact List.take_of_length_le (by simp [GHash.enc_len]))
theorem pt39_1 (w : World) (x : GCommit) : (part 35 x.enc.toArray 2).run Tryz.prog w = .ok (x.hash.val) w := by
  have h := run_part_agg (P := Tryz.prog) (w := w) (cs := x.enc) (ds := x.hash.enc) (off := 2) ag35 (by rw [GHash.enc_len]; exact sz35) (by simp [GHash.enc_len]) (by rw [GHash.enc_len]; exact ds39_1 x)
  rw [h, GHash.val_eq]; rfl
theorem lk39_2 (x : GCommit) : x.enc[34]? = some (.int .i64 x.len) := by
  simp [GCommit.enc, List.getElem?_append, GHash.enc_len, GName.enc_len]
theorem pt39_2 (w : World) (x : GCommit) : (part 3 x.enc.toArray 34).run Tryz.prog w = .ok (.int .i64 x.len) w := run_part_one na3 us3 (lk39_2 x)
theorem ds39_3 (x : GCommit) : (x.enc.drop 35).take 2 = x.sig.enc := by
  unfold GCommit.enc
  simp [List.drop_append, List.drop_eq_nil_of_le, GHash.enc_len, GName.enc_len] <;> (exact List.take_of_length_le (by simp [GSig.enc_len]))
theorem pt39_3 (w : World) (x : GCommit) : (part 37 x.enc.toArray 35).run Tryz.prog w = .ok (x.sig.val) w := by
  have h := run_part_agg (P := Tryz.prog) (w := w) (cs := x.enc) (ds := x.sig.enc) (off := 35) ag37 (by rw [GSig.enc_len]; exact sz37) (by simp [GSig.enc_len]) (by rw [GSig.enc_len]; exact ds39_3 x)
  rw [h, GSig.val_eq]; rfl
theorem zr39 : zeroT Tryz.prog 39 = some (.agg (GCommit.enc default).toArray) := by kernel_rfl
@[go_sem ↓ high] theorem al_GCommit (w : World) : (gAlloc 39).run Tryz.prog w = .ok (.pointer (some ⟨w.heap.size, 0, none⟩)) (w.alloc (.cells (GCommit.enc default).toArray 39)) := run_zero_alloc zr39 w
@[go_sem] theorem pc_GCommit (w : World) (n : Nat) (x z : GCommit) (hn : n = w.heap.size) : World.putCells (w.alloc (.cells (GCommit.enc z).toArray 39)) ⟨n, 0, none⟩ (GCommit.enc x) = w.alloc (.cells (GCommit.enc x).toArray 39) := putCells_top x z hn
theorem GCommit.at_name {w : World} {a : Addr} {x : GCommit} (h : get? GCommit w a = some x) : get? GName w (a.add 0) = some x.name := by
  rw [get?_iff] at h ⊢
  refine h.sub 0 fun j v hv => ?_
  have hd := ds39_0 x
  have hj : j < 2 := by have := (List.getElem?_eq_some_iff.1 hv).1; rwa [Enc.len] at this
  show x.enc[0 + j]? = some v
  rw [← List.getElem?_drop, ← List.getElem?_take_of_lt hj, hd]; exact hv
theorem GCommit.at_hash {w : World} {a : Addr} {x : GCommit} (h : get? GCommit w a = some x) : get? GHash w (a.add 2) = some x.hash := by
  rw [get?_iff] at h ⊢
  refine h.sub 2 fun j v hv => ?_
  have hd := ds39_1 x
  have hj : j < 32 := by have := (List.getElem?_eq_some_iff.1 hv).1; rwa [Enc.len] at this
  show x.enc[2 + j]? = some v
  rw [← List.getElem?_drop, ← List.getElem?_take_of_lt hj, hd]; exact hv
theorem GCommit.at_len {w : World} {a : Addr} {x : GCommit} (h : get? GCommit w a = some x) : w.cell? (a.add 34) = some (.int .i64 x.len) := (get?_iff.1 h) _ _ (lk39_2 x)
theorem GCommit.at_sig {w : World} {a : Addr} {x : GCommit} (h : get? GCommit w a = some x) : get? GSig w (a.add 35) = some x.sig := by
  rw [get?_iff] at h ⊢
  refine h.sub 35 fun j v hv => ?_
  have hd := ds39_3 x
  have hj : j < 2 := by have := (List.getElem?_eq_some_iff.1 hv).1; rwa [Enc.len] at this
  show x.enc[35 + j]? = some v
  rw [← List.getElem?_drop, ← List.getElem?_take_of_lt hj, hd]; exact hv
theorem pl39 : ((Tryz.prog.fieldsOf 39).toList.mapM fun f => (Tryz.prog.info? f.type).map fun i => (f.offset, i.size)) = some [(0, 2), (2, 32), (34, 1), (35, 2)] := by kernel_rfl
theorem fs39_0 (x : GCommit) (v : GName) (rest : List (Nat × Value)) : Instr.fill (fun i => ([(0, 2), (2, 32), (34, 1), (35, 2)] : List (Nat × Nat))[i]?) x.enc.toArray ((0, (v.val)) :: rest) = Instr.fill (fun i => ([(0, 2), (2, 32), (34, 1), (35, 2)] : List (Nat × Nat))[i]?) ({ x with name := v } : GCommit).enc.toArray rest := by
  have h := fill_seg [(0, 2), (2, 32), (34, 1), (35, 2)] 0 0 2 rfl (([] : List Value)) (x.name.enc) (x.hash.enc ++ ([(.int .i64 x.len)] ++ (x.sig.enc ++ (([] : List Value))))) (v.enc) (v.val) rest (by rw [GName.val_eq]; rfl) (by simp [GHash.enc_len, GName.enc_len, GSig.enc_len]) (by simp [GHash.enc_len, GName.enc_len, GSig.enc_len]) (by simp [GHash.enc_len, GName.enc_len, GSig.enc_len])
  have e1 : x.enc = (([] : List Value)) ++ (x.name.enc ++ (x.hash.enc ++ ([(.int .i64 x.len)] ++ (x.sig.enc ++ (([] : List Value)))))) := by simp only [GCommit.enc, List.nil_append, List.append_assoc, List.append_nil]
  have e2 : ({ x with name := v } : GCommit).enc = (([] : List Value)) ++ (v.enc ++ (x.hash.enc ++ ([(.int .i64 x.len)] ++ (x.sig.enc ++ (([] : List Value)))))) := by simp only [GCommit.enc, List.nil_append, List.append_assoc, List.append_nil]
  rw [e1, e2]; exact h
theorem fs39_1 (x : GCommit) (v : GHash) (rest : List (Nat × Value)) : Instr.fill (fun i => ([(0, 2), (2, 32), (34, 1), (35, 2)] : List (Nat × Nat))[i]?) x.enc.toArray ((1, (v.val)) :: rest) = Instr.fill (fun i => ([(0, 2), (2, 32), (34, 1), (35, 2)] : List (Nat × Nat))[i]?) ({ x with hash := v } : GCommit).enc.toArray rest := by
  have h := fill_seg [(0, 2), (2, 32), (34, 1), (35, 2)] 1 2 32 rfl (([] : List Value) ++ (x.name.enc)) (x.hash.enc) ([(.int .i64 x.len)] ++ (x.sig.enc ++ (([] : List Value)))) (v.enc) (v.val) rest (by rw [GHash.val_eq]; rfl) (by simp [GHash.enc_len, GName.enc_len, GSig.enc_len]) (by simp [GHash.enc_len, GName.enc_len, GSig.enc_len]) (by simp [GHash.enc_len, GName.enc_len, GSig.enc_len])
  have e1 : x.enc = (([] : List Value) ++ (x.name.enc)) ++ (x.hash.enc ++ ([(.int .i64 x.len)] ++ (x.sig.enc ++ (([] : List Value))))) := by simp only [GCommit.enc, List.nil_append, List.append_assoc, List.append_nil]
  have e2 : ({ x with hash := v } : GCommit).enc = (([] : List Value) ++ (x.name.enc)) ++ (v.enc ++ ([(.int .i64 x.len)] ++ (x.sig.enc ++ (([] : List Value))))) := by simp only [GCommit.enc, List.nil_append, List.append_assoc, List.append_nil]
  rw [e1, e2]; exact h
theorem fs39_2 (x : GCommit) (v : Int) (rest : List (Nat × Value)) : Instr.fill (fun i => ([(0, 2), (2, 32), (34, 1), (35, 2)] : List (Nat × Nat))[i]?) x.enc.toArray ((2, (.int .i64 v)) :: rest) = Instr.fill (fun i => ([(0, 2), (2, 32), (34, 1), (35, 2)] : List (Nat × Nat))[i]?) ({ x with len := v } : GCommit).enc.toArray rest := by
  have h := fill_seg [(0, 2), (2, 32), (34, 1), (35, 2)] 2 34 1 rfl (([] : List Value) ++ (x.name.enc ++ (x.hash.enc))) ([(.int .i64 x.len)]) (x.sig.enc ++ (([] : List Value))) ([(.int .i64 v)]) (.int .i64 v) rest (rfl) (by simp [GHash.enc_len, GName.enc_len, GSig.enc_len]) (by simp [GHash.enc_len, GName.enc_len, GSig.enc_len]) (by simp [GHash.enc_len, GName.enc_len, GSig.enc_len])
  have e1 : x.enc = (([] : List Value) ++ (x.name.enc ++ (x.hash.enc))) ++ ([(.int .i64 x.len)] ++ (x.sig.enc ++ (([] : List Value)))) := by simp only [GCommit.enc, List.nil_append, List.append_assoc, List.append_nil]
  have e2 : ({ x with len := v } : GCommit).enc = (([] : List Value) ++ (x.name.enc ++ (x.hash.enc))) ++ ([(.int .i64 v)] ++ (x.sig.enc ++ (([] : List Value)))) := by simp only [GCommit.enc, List.nil_append, List.append_assoc, List.append_nil]
  rw [e1, e2]; exact h
@[go_sem ↓ high] theorem xd_GCommit (ρ : Operand → Value) (dst : Option Tmp) (ps : Array (Nat × Operand)) (ty : TypeId) (pos : String) (after : Array Edge) (guard : Option (Nat × Bool)) : execOp ρ { dst, op := .build 39 ps, type := ty, pos, after, guard } = (do pure (.value (← gBuild 39 (ps.map fun (i, x) => (i, ρ x))))) := ex_build ..
@[go_sem ↓ high] theorem bd39_0 (w : World) (v0 : GName) (v1 : GHash) (v2 : Int) : (gBuild 39 #[(0, (v0.val)), (1, (v1.val)), (2, (.int .i64 v2))]).run Tryz.prog w = .ok (GCommit.val ⟨v0, v1, v2, default⟩) w := by
  rw [GCommit.val_eq]
  refine run_gBuild_of uu39 zr39 pl39 ?_ w
  show Instr.fill _ (GCommit.enc default).toArray [(0, (v0.val)), (1, (v1.val)), (2, (.int .i64 v2))] = _
  rw [fs39_0, fs39_1, fs39_2]; rfl
theorem eq_GCommit (w : World) (d : Nat) (x y : GCommit) : (Op.equalIn (d + 3) 39 (GCommit.val x) (GCommit.val y)).run Tryz.prog w = .ok (decide (x = y)) w := by
  have q0 : (Op.equalIn (d + 2) 33 x.name.val y.name.val).run Tryz.prog w = .ok (decide (x.name = y.name)) w := eq_GName w (d + 0) _ _
  have q1 : (Op.equalIn (d + 2) 35 x.hash.val y.hash.val).run Tryz.prog w = .ok (decide (x.hash = y.hash)) w := eq_GHash w (d + 0) _ _
  have q2 : ∀ a b, (Op.equalIn (d + 2) 3 (.int .i64 a) (.int .i64 b)).run Tryz.prog w = .ok (decide (a = b)) w := fun a b => by rw [run_equalIn_int w (d + 1) 3 .i64 .i64 a b uk3]; congr 1
  have q3 : (Op.equalIn (d + 2) 37 x.sig.val y.sig.val).run Tryz.prog w = .ok (decide (x.sig = y.sig)) w := eq_GSig w (d + 0) _ _
  have h := run_equalIn_fields (d + 2) x.enc.toArray y.enc.toArray w uu39 st39 nb39
  rw [fl39] at h
  unfold GCommit.val
  refine h.trans ?_
  clear h
  simp only [eqFs, Sem.run_bind, pt39_0, pt39_1, pt39_2, pt39_3, q0, q1, q2, q3, Result.andThen_ok, Sem.run_ite, Sem.run_pure]
  have he : decide (x = y) = (decide (x.name = y.name) && (decide (x.hash = y.hash) && (decide (x.len = y.len) && (decide (x.sig = y.sig))))) := by
    rw [Bool.eq_iff_iff]; simp only [Bool.and_eq_true, decide_eq_true_eq]; exact GCommit.ext_all x y
  rw [he]
  generalize decide (x.name = y.name) = c0; generalize decide (x.hash = y.hash) = c1; generalize decide (x.len = y.len) = c2; generalize decide (x.sig = y.sig) = c3
  cases c0 <;> cases c1 <;> cases c2 <;> cases c3 <;> simp
@[go_sem ↓ high] theorem xq_GCommit (ρ : Operand → Value) (dst : Option Tmp) (x y : Operand) (ty yt : TypeId) (pos : String) (after : Array Edge) (guard : Option (Nat × Bool)) : execOp ρ { dst, op := .binOp .eql 39 x y yt, type := ty, pos, after, guard } = (do pure (.value (← gBin .eql 39 x y (ρ x) (ρ y)))) := ex_eql ..
theorem eg_GCommit : Tryz.prog.eqGuardType Tryz.prog.depth 39 = false := by kernel_rfl
@[go_sem ↓ high] theorem eql_GCommit (w : World) (ox oy : Operand) (x y : GCommit) : (gBin .eql 39 ox oy (GCommit.val x) (GCommit.val y)).run Tryz.prog w = .ok (.bool (decide (x = y))) w := by
  have h2 := eq_GCommit w 9997 x y
  rw [GCommit.val_eq, GCommit.val_eq] at h2 ⊢
  have h := run_eqGuard_agg (P := Tryz.prog) w .eql 39 ox oy (Enc.enc x).toArray (Enc.enc y).toArray eg_GCommit
  unfold gBin
  simp only [Sem.run_bind, h, Result.andThen_ok, run_eql_struct, h2]
/-! ### gavel/api.Cert -/
structure GCert where
  commit : GCommit
  stamps : Hdr
deriving DecidableEq
instance : Inhabited GCert := ⟨⟨default, default⟩⟩
def GCert.enc (x : GCert) : List Value := x.commit.enc ++ ([(x.stamps.val)])
theorem GCert.enc_len (x : GCert) : x.enc.length = 38 := by simp [GCert.enc, GCommit.enc_len]
theorem GCert.enc_one (x : GCert) : ∀ u ∈ x.enc, u.oneCell' = true := by
  intro u hu
  simp only [GCert.enc, List.mem_append, List.mem_singleton] at hu
  rcases hu with hu | hu
  · exact Enc.one (α := GCommit) _ _ hu
  · subst hu; rfl
theorem GCert.enc_inj (x y : GCert) (h : x.enc = y.enc) : x = y := by
  obtain ⟨a0, a1⟩ := x
  obtain ⟨b0, b1⟩ := y
  simp only [GCert.enc] at h
  obtain ⟨p0, q0⟩ := List.append_inj h (by simp [GCommit.enc_len])
  have e0 := Enc.inj (α := GCommit) _ _ p0
  have e1 : a1 = b1 := Enc.inj (α := Hdr) _ _ q0
  rw [e0, e1]
instance : Enc GCert where
  n := 38
  enc := GCert.enc
  pos := by omega
  len := GCert.enc_len
  one := GCert.enc_one
  inj := GCert.enc_inj
@[go_sem] theorem GCert.n_eq : Enc.n GCert = 38 := rfl
@[irreducible] def GCert.val (x : GCert) : Value := .agg x.enc.toArray
theorem GCert.val_eq (x : GCert) : GCert.val x = .agg (Enc.enc x).toArray := by unfold GCert.val; rfl
@[go_sem ↓ high] theorem xl_GCert (ρ : Operand → Value) (dst : Option Tmp) (x : Operand) (ty : TypeId) (pos : String) (after : Array Edge) (guard : Option (Nat × Bool)) : execOp ρ { dst, op := .load 44 x, type := ty, pos, after, guard } = (do pure (.value (← gLoad 44 (ρ x)))) := ex_load ..
@[go_sem ↓ high] theorem xs_GCert (ρ : Operand → Value) (dst : Option Tmp) (x y : Operand) (ty : TypeId) (pos : String) (after : Array Edge) (guard : Option (Nat × Bool)) : execOp ρ { dst, op := .store 44 x y, type := ty, pos, after, guard } = (do gStore 44 (ρ x) (ρ y); pure .skip) := ex_store ..
@[go_sem ↓ high] theorem xb_GCert (ρ : Operand → Value) (dst : Option Tmp) (x : Operand) (ty : TypeId) (pos : String) (after : Array Edge) (guard : Option (Nat × Bool)) : execOp ρ { dst, op := .box 44 x, type := ty, pos, after, guard } = (do pure (.value (← gBox 44 (ρ x)))) := ex_box ..
@[go_sem ↓ high] theorem xa_GCert (ρ : Operand → Value) (dst : Option Tmp) (ty : TypeId) (pos : String) (after : Array Edge) (guard : Option (Nat × Bool)) : execOp ρ { dst, op := .alloc 44, type := ty, pos, after, guard } = (do pure (.value (← gAlloc 44))) := ex_alloc ..
theorem ag44 : aggT Tryz.prog 44 = true := by kernel_rfl
theorem sz44 : sizeT Tryz.prog 44 = 38 := by kernel_rfl
section
variable (w : World)
@[go_sem ↓ high] theorem ld_GCert (a : Addr) : (gLoad 44 (.pointer (some a))).run Tryz.prog w = ofOpt ((get? GCert w a).map GCert.val) w (noLoad Tryz.prog 44 a w) := by
  unfold gLoad; exact run_loadAt_opt ag44 sz44 GCert.val GCert.val_eq
@[go_sem ↓ high] theorem st_GCert (a : Addr) (x : GCert) : (gStore 44 (.pointer (some a)) (GCert.val x)).run Tryz.prog w = okU' ((get? GCert w a).isSome && blkFree w a.block) (World.putCells w a (GCert.enc x)) (noStore Tryz.prog 44 (.pointer (some a)) (GCert.val x) w) := run_gStore_any sz44 GCert.val GCert.val_eq w a x
@[go_sem ↓ high] theorem bx_GCert (x : GCert) : (gBox 44 (GCert.val x)).run Tryz.prog w = .ok (.pointer (some ⟨w.heap.size, 0, none⟩)) (w.alloc (.cells (GCert.enc x).toArray 44)) := by
  rw [GCert.val_eq]; exact run_gBox _ w
end
theorem ds44_0 (x : GCert) : (x.enc.drop 0).take 37 = x.commit.enc := by
  unfold GCert.enc
  simp only [List.drop_zero] <;> (rw [List.take_append_of_le_length (by simp [GCommit.enc_len])]; exact List.take_of_length_le (by simp [GCommit.enc_len]))
theorem lk44_1 (x : GCert) : x.enc[37]? = some (x.stamps.val) := by
  simp [GCert.enc, List.getElem?_append, GCommit.enc_len]
theorem zr44 : zeroT Tryz.prog 44 = some (.agg (GCert.enc default).toArray) := by kernel_rfl
@[go_sem ↓ high] theorem al_GCert (w : World) : (gAlloc 44).run Tryz.prog w = .ok (.pointer (some ⟨w.heap.size, 0, none⟩)) (w.alloc (.cells (GCert.enc default).toArray 44)) := run_zero_alloc zr44 w
theorem GCert.at_commit {w : World} {a : Addr} {x : GCert} (h : get? GCert w a = some x) : get? GCommit w (a.add 0) = some x.commit := by
  rw [get?_iff] at h ⊢
  refine h.sub 0 fun j v hv => ?_
  have hd := ds44_0 x
  have hj : j < 37 := by have := (List.getElem?_eq_some_iff.1 hv).1; rwa [Enc.len] at this
  show x.enc[0 + j]? = some v
  rw [← List.getElem?_drop, ← List.getElem?_take_of_lt hj, hd]; exact hv
theorem GCert.at_stamps {w : World} {a : Addr} {x : GCert} (h : get? GCert w a = some x) : w.cell? (a.add 37) = some (x.stamps.val) := (get?_iff.1 h) _ _ (lk44_1 x)
/-! ### gavel/api.Stamp -/
structure GStamp where
  replica : Int
  name : GName
  hash : GHash
  time : Int
  sig : GSig
deriving DecidableEq
instance : Inhabited GStamp := ⟨⟨0, default, default, 0, default⟩⟩
def GStamp.enc (x : GStamp) : List Value := [(.int .i64 x.replica)] ++ (x.name.enc ++ (x.hash.enc ++ ([(.int .u64 x.time)] ++ (x.sig.enc))))
theorem GStamp.enc_len (x : GStamp) : x.enc.length = 38 := by simp [GStamp.enc, GHash.enc_len, GName.enc_len, GSig.enc_len]
theorem GStamp.enc_one (x : GStamp) : ∀ u ∈ x.enc, u.oneCell' = true := by
  intro u hu
  simp only [GStamp.enc, List.mem_append, List.mem_singleton] at hu
  rcases hu with hu | hu | hu | hu | hu
  · subst hu; rfl
  · exact Enc.one (α := GName) _ _ hu
  · exact Enc.one (α := GHash) _ _ hu
  · subst hu; rfl
  · exact Enc.one (α := GSig) _ _ hu
theorem GStamp.enc_inj (x y : GStamp) (h : x.enc = y.enc) : x = y := by
  obtain ⟨a0, a1, a2, a3, a4⟩ := x
  obtain ⟨b0, b1, b2, b3, b4⟩ := y
  simp only [GStamp.enc] at h
  obtain ⟨p0, q0⟩ := List.append_inj h (rfl)
  have e0 : a0 = b0 := by have := List.head_eq_of_cons_eq p0; injection this
  obtain ⟨p1, q1⟩ := List.append_inj q0 (by simp [GName.enc_len])
  have e1 := Enc.inj (α := GName) _ _ p1
  obtain ⟨p2, q2⟩ := List.append_inj q1 (by simp [GHash.enc_len])
  have e2 := Enc.inj (α := GHash) _ _ p2
  obtain ⟨p3, q3⟩ := List.append_inj q2 (rfl)
  have e3 : a3 = b3 := by have := List.head_eq_of_cons_eq p3; injection this
  have e4 := Enc.inj (α := GSig) _ _ q3
  rw [e0, e1, e2, e3, e4]
instance : Enc GStamp where
  n := 38
  enc := GStamp.enc
  pos := by omega
  len := GStamp.enc_len
  one := GStamp.enc_one
  inj := GStamp.enc_inj
@[go_sem] theorem GStamp.n_eq : Enc.n GStamp = 38 := rfl
@[irreducible] def GStamp.val (x : GStamp) : Value := .agg x.enc.toArray
theorem GStamp.val_eq (x : GStamp) : GStamp.val x = .agg (Enc.enc x).toArray := by unfold GStamp.val; rfl
theorem GStamp.ext_all (x y : GStamp) : x = y ↔ x.replica = y.replica ∧ x.name = y.name ∧ x.hash = y.hash ∧ x.time = y.time ∧ x.sig = y.sig := by
  constructor
  · intro h; cases h; simp
  · intro h; cases x; cases y; simp_all
theorem uu41 : Tryz.prog.underlying 41 = some (.struct (Tryz.prog.fieldsOf 41)) := by kernel_rfl
theorem st41 : Tryz.prog.stoodInHeld 41 = false := by kernel_rfl
theorem fl41 : fieldTO Tryz.prog 41 = [(3, 0), (33, 1), (35, 3), (22, 35), (37, 36)] := by kernel_rfl
theorem nb41 : noBlank Tryz.prog 41 = true := by kernel_rfl
@[go_sem ↓ high] theorem xl_GStamp (ρ : Operand → Value) (dst : Option Tmp) (x : Operand) (ty : TypeId) (pos : String) (after : Array Edge) (guard : Option (Nat × Bool)) : execOp ρ { dst, op := .load 41 x, type := ty, pos, after, guard } = (do pure (.value (← gLoad 41 (ρ x)))) := ex_load ..
@[go_sem ↓ high] theorem xs_GStamp (ρ : Operand → Value) (dst : Option Tmp) (x y : Operand) (ty : TypeId) (pos : String) (after : Array Edge) (guard : Option (Nat × Bool)) : execOp ρ { dst, op := .store 41 x y, type := ty, pos, after, guard } = (do gStore 41 (ρ x) (ρ y); pure .skip) := ex_store ..
@[go_sem ↓ high] theorem xb_GStamp (ρ : Operand → Value) (dst : Option Tmp) (x : Operand) (ty : TypeId) (pos : String) (after : Array Edge) (guard : Option (Nat × Bool)) : execOp ρ { dst, op := .box 41 x, type := ty, pos, after, guard } = (do pure (.value (← gBox 41 (ρ x)))) := ex_box ..
@[go_sem ↓ high] theorem xa_GStamp (ρ : Operand → Value) (dst : Option Tmp) (ty : TypeId) (pos : String) (after : Array Edge) (guard : Option (Nat × Bool)) : execOp ρ { dst, op := .alloc 41, type := ty, pos, after, guard } = (do pure (.value (← gAlloc 41))) := ex_alloc ..
theorem ag41 : aggT Tryz.prog 41 = true := by kernel_rfl
theorem sz41 : sizeT Tryz.prog 41 = 38 := by kernel_rfl
section
variable (w : World)
@[go_sem ↓ high] theorem ld_GStamp (a : Addr) : (gLoad 41 (.pointer (some a))).run Tryz.prog w = ofOpt ((get? GStamp w a).map GStamp.val) w (noLoad Tryz.prog 41 a w) := by
  unfold gLoad; exact run_loadAt_opt ag41 sz41 GStamp.val GStamp.val_eq
@[go_sem ↓ high] theorem st_GStamp (a : Addr) (x : GStamp) : (gStore 41 (.pointer (some a)) (GStamp.val x)).run Tryz.prog w = okU' ((get? GStamp w a).isSome && blkFree w a.block) (World.putCells w a (GStamp.enc x)) (noStore Tryz.prog 41 (.pointer (some a)) (GStamp.val x) w) := run_gStore_any sz41 GStamp.val GStamp.val_eq w a x
@[go_sem ↓ high] theorem bx_GStamp (x : GStamp) : (gBox 41 (GStamp.val x)).run Tryz.prog w = .ok (.pointer (some ⟨w.heap.size, 0, none⟩)) (w.alloc (.cells (GStamp.enc x).toArray 41)) := by
  rw [GStamp.val_eq]; exact run_gBox _ w
end
theorem lk41_0 (x : GStamp) : x.enc[0]? = some (.int .i64 x.replica) := by
  simp [GStamp.enc, List.getElem?_append]
theorem pt41_0 (w : World) (x : GStamp) : (part 3 x.enc.toArray 0).run Tryz.prog w = .ok (.int .i64 x.replica) w := run_part_one na3 us3 (lk41_0 x)
theorem ds41_1 (x : GStamp) : (x.enc.drop 1).take 2 = x.name.enc := by
  unfold GStamp.enc
  simp [List.drop_append, List.drop_eq_nil_of_le] <;> (rw [List.take_append_of_le_length (by simp [GName.enc_len])]; exact List.take_of_length_le (by simp [GName.enc_len]))
theorem pt41_1 (w : World) (x : GStamp) : (part 33 x.enc.toArray 1).run Tryz.prog w = .ok (x.name.val) w := by
  have h := run_part_agg (P := Tryz.prog) (w := w) (cs := x.enc) (ds := x.name.enc) (off := 1) ag33 (by rw [GName.enc_len]; exact sz33) (by simp [GName.enc_len]) (by rw [GName.enc_len]; exact ds41_1 x)
  rw [h, GName.val_eq]; rfl
theorem ds41_2 (x : GStamp) : (x.enc.drop 3).take 32 = x.hash.enc := by
  unfold GStamp.enc
  simp [List.drop_append, List.drop_eq_nil_of_le, GName.enc_len] <;> (rw [List.take_append_of_le_length (by simp [GHash.enc_len])]; exact List.take_of_length_le (by simp [GHash.enc_len]))
theorem pt41_2 (w : World) (x : GStamp) : (part 35 x.enc.toArray 3).run Tryz.prog w = .ok (x.hash.val) w := by
  have h := run_part_agg (P := Tryz.prog) (w := w) (cs := x.enc) (ds := x.hash.enc) (off := 3) ag35 (by rw [GHash.enc_len]; exact sz35) (by simp [GHash.enc_len]) (by rw [GHash.enc_len]; exact ds41_2 x)
  rw [h, GHash.val_eq]; rfl
theorem lk41_3 (x : GStamp) : x.enc[35]? = some (.int .u64 x.time) := by
  simp [GStamp.enc, List.getElem?_append, GHash.enc_len, GName.enc_len]
theorem pt41_3 (w : World) (x : GStamp) : (part 22 x.enc.toArray 35).run Tryz.prog w = .ok (.int .u64 x.time) w := run_part_one na22 us22 (lk41_3 x)
theorem ds41_4 (x : GStamp) : (x.enc.drop 36).take 2 = x.sig.enc := by
  unfold GStamp.enc
  simp [List.drop_append, List.drop_eq_nil_of_le, GHash.enc_len, GName.enc_len] <;> (exact List.take_of_length_le (by simp [GSig.enc_len]))
theorem pt41_4 (w : World) (x : GStamp) : (part 37 x.enc.toArray 36).run Tryz.prog w = .ok (x.sig.val) w := by
  have h := run_part_agg (P := Tryz.prog) (w := w) (cs := x.enc) (ds := x.sig.enc) (off := 36) ag37 (by rw [GSig.enc_len]; exact sz37) (by simp [GSig.enc_len]) (by rw [GSig.enc_len]; exact ds41_4 x)
  rw [h, GSig.val_eq]; rfl
theorem zr41 : zeroT Tryz.prog 41 = some (.agg (GStamp.enc default).toArray) := by kernel_rfl
@[go_sem ↓ high] theorem al_GStamp (w : World) : (gAlloc 41).run Tryz.prog w = .ok (.pointer (some ⟨w.heap.size, 0, none⟩)) (w.alloc (.cells (GStamp.enc default).toArray 41)) := run_zero_alloc zr41 w
theorem GStamp.at_replica {w : World} {a : Addr} {x : GStamp} (h : get? GStamp w a = some x) : w.cell? (a.add 0) = some (.int .i64 x.replica) := (get?_iff.1 h) _ _ (lk41_0 x)
theorem GStamp.at_name {w : World} {a : Addr} {x : GStamp} (h : get? GStamp w a = some x) : get? GName w (a.add 1) = some x.name := by
  rw [get?_iff] at h ⊢
  refine h.sub 1 fun j v hv => ?_
  have hd := ds41_1 x
  have hj : j < 2 := by have := (List.getElem?_eq_some_iff.1 hv).1; rwa [Enc.len] at this
  show x.enc[1 + j]? = some v
  rw [← List.getElem?_drop, ← List.getElem?_take_of_lt hj, hd]; exact hv
theorem GStamp.at_hash {w : World} {a : Addr} {x : GStamp} (h : get? GStamp w a = some x) : get? GHash w (a.add 3) = some x.hash := by
  rw [get?_iff] at h ⊢
  refine h.sub 3 fun j v hv => ?_
  have hd := ds41_2 x
  have hj : j < 32 := by have := (List.getElem?_eq_some_iff.1 hv).1; rwa [Enc.len] at this
  show x.enc[3 + j]? = some v
  rw [← List.getElem?_drop, ← List.getElem?_take_of_lt hj, hd]; exact hv
theorem GStamp.at_time {w : World} {a : Addr} {x : GStamp} (h : get? GStamp w a = some x) : w.cell? (a.add 35) = some (.int .u64 x.time) := (get?_iff.1 h) _ _ (lk41_3 x)
theorem GStamp.at_sig {w : World} {a : Addr} {x : GStamp} (h : get? GStamp w a = some x) : get? GSig w (a.add 36) = some x.sig := by
  rw [get?_iff] at h ⊢
  refine h.sub 36 fun j v hv => ?_
  have hd := ds41_4 x
  have hj : j < 2 := by have := (List.getElem?_eq_some_iff.1 hv).1; rwa [Enc.len] at this
  show x.enc[36 + j]? = some v
  rw [← List.getElem?_drop, ← List.getElem?_take_of_lt hj, hd]; exact hv
theorem pl41 : ((Tryz.prog.fieldsOf 41).toList.mapM fun f => (Tryz.prog.info? f.type).map fun i => (f.offset, i.size)) = some [(0, 1), (1, 2), (3, 32), (35, 1), (36, 2)] := by kernel_rfl
theorem fs41_0 (x : GStamp) (v : Int) (rest : List (Nat × Value)) : Instr.fill (fun i => ([(0, 1), (1, 2), (3, 32), (35, 1), (36, 2)] : List (Nat × Nat))[i]?) x.enc.toArray ((0, (.int .i64 v)) :: rest) = Instr.fill (fun i => ([(0, 1), (1, 2), (3, 32), (35, 1), (36, 2)] : List (Nat × Nat))[i]?) ({ x with replica := v } : GStamp).enc.toArray rest := by
  have h := fill_seg [(0, 1), (1, 2), (3, 32), (35, 1), (36, 2)] 0 0 1 rfl (([] : List Value)) ([(.int .i64 x.replica)]) (x.name.enc ++ (x.hash.enc ++ ([(.int .u64 x.time)] ++ (x.sig.enc ++ (([] : List Value)))))) ([(.int .i64 v)]) (.int .i64 v) rest (rfl) (by simp [GHash.enc_len, GName.enc_len, GSig.enc_len]) (by simp [GHash.enc_len, GName.enc_len, GSig.enc_len]) (by simp [GHash.enc_len, GName.enc_len, GSig.enc_len])
  have e1 : x.enc = (([] : List Value)) ++ ([(.int .i64 x.replica)] ++ (x.name.enc ++ (x.hash.enc ++ ([(.int .u64 x.time)] ++ (x.sig.enc ++ (([] : List Value))))))) := by simp only [GStamp.enc, List.nil_append, List.append_assoc, List.append_nil]
  have e2 : ({ x with replica := v } : GStamp).enc = (([] : List Value)) ++ ([(.int .i64 v)] ++ (x.name.enc ++ (x.hash.enc ++ ([(.int .u64 x.time)] ++ (x.sig.enc ++ (([] : List Value))))))) := by simp only [GStamp.enc, List.nil_append, List.append_assoc, List.append_nil]
  rw [e1, e2]; exact h
theorem fs41_1 (x : GStamp) (v : GName) (rest : List (Nat × Value)) : Instr.fill (fun i => ([(0, 1), (1, 2), (3, 32), (35, 1), (36, 2)] : List (Nat × Nat))[i]?) x.enc.toArray ((1, (v.val)) :: rest) = Instr.fill (fun i => ([(0, 1), (1, 2), (3, 32), (35, 1), (36, 2)] : List (Nat × Nat))[i]?) ({ x with name := v } : GStamp).enc.toArray rest := by
  have h := fill_seg [(0, 1), (1, 2), (3, 32), (35, 1), (36, 2)] 1 1 2 rfl (([] : List Value) ++ ([(.int .i64 x.replica)])) (x.name.enc) (x.hash.enc ++ ([(.int .u64 x.time)] ++ (x.sig.enc ++ (([] : List Value))))) (v.enc) (v.val) rest (by rw [GName.val_eq]; rfl) (by simp [GHash.enc_len, GName.enc_len, GSig.enc_len]) (by simp [GHash.enc_len, GName.enc_len, GSig.enc_len]) (by simp [GHash.enc_len, GName.enc_len, GSig.enc_len])
  have e1 : x.enc = (([] : List Value) ++ ([(.int .i64 x.replica)])) ++ (x.name.enc ++ (x.hash.enc ++ ([(.int .u64 x.time)] ++ (x.sig.enc ++ (([] : List Value)))))) := by simp only [GStamp.enc, List.nil_append, List.append_assoc, List.append_nil]
  have e2 : ({ x with name := v } : GStamp).enc = (([] : List Value) ++ ([(.int .i64 x.replica)])) ++ (v.enc ++ (x.hash.enc ++ ([(.int .u64 x.time)] ++ (x.sig.enc ++ (([] : List Value)))))) := by simp only [GStamp.enc, List.nil_append, List.append_assoc, List.append_nil]
  rw [e1, e2]; exact h
theorem fs41_2 (x : GStamp) (v : GHash) (rest : List (Nat × Value)) : Instr.fill (fun i => ([(0, 1), (1, 2), (3, 32), (35, 1), (36, 2)] : List (Nat × Nat))[i]?) x.enc.toArray ((2, (v.val)) :: rest) = Instr.fill (fun i => ([(0, 1), (1, 2), (3, 32), (35, 1), (36, 2)] : List (Nat × Nat))[i]?) ({ x with hash := v } : GStamp).enc.toArray rest := by
  have h := fill_seg [(0, 1), (1, 2), (3, 32), (35, 1), (36, 2)] 2 3 32 rfl (([] : List Value) ++ ([(.int .i64 x.replica)] ++ (x.name.enc))) (x.hash.enc) ([(.int .u64 x.time)] ++ (x.sig.enc ++ (([] : List Value)))) (v.enc) (v.val) rest (by rw [GHash.val_eq]; rfl) (by simp [GHash.enc_len, GName.enc_len, GSig.enc_len]) (by simp [GHash.enc_len, GName.enc_len, GSig.enc_len]) (by simp [GHash.enc_len, GName.enc_len, GSig.enc_len])
  have e1 : x.enc = (([] : List Value) ++ ([(.int .i64 x.replica)] ++ (x.name.enc))) ++ (x.hash.enc ++ ([(.int .u64 x.time)] ++ (x.sig.enc ++ (([] : List Value))))) := by simp only [GStamp.enc, List.nil_append, List.append_assoc, List.append_nil]
  have e2 : ({ x with hash := v } : GStamp).enc = (([] : List Value) ++ ([(.int .i64 x.replica)] ++ (x.name.enc))) ++ (v.enc ++ ([(.int .u64 x.time)] ++ (x.sig.enc ++ (([] : List Value))))) := by simp only [GStamp.enc, List.nil_append, List.append_assoc, List.append_nil]
  rw [e1, e2]; exact h
theorem fs41_3 (x : GStamp) (v : Int) (rest : List (Nat × Value)) : Instr.fill (fun i => ([(0, 1), (1, 2), (3, 32), (35, 1), (36, 2)] : List (Nat × Nat))[i]?) x.enc.toArray ((3, (.int .u64 v)) :: rest) = Instr.fill (fun i => ([(0, 1), (1, 2), (3, 32), (35, 1), (36, 2)] : List (Nat × Nat))[i]?) ({ x with time := v } : GStamp).enc.toArray rest := by
  have h := fill_seg [(0, 1), (1, 2), (3, 32), (35, 1), (36, 2)] 3 35 1 rfl (([] : List Value) ++ ([(.int .i64 x.replica)] ++ (x.name.enc ++ (x.hash.enc)))) ([(.int .u64 x.time)]) (x.sig.enc ++ (([] : List Value))) ([(.int .u64 v)]) (.int .u64 v) rest (rfl) (by simp [GHash.enc_len, GName.enc_len, GSig.enc_len]) (by simp [GHash.enc_len, GName.enc_len, GSig.enc_len]) (by simp [GHash.enc_len, GName.enc_len, GSig.enc_len])
  have e1 : x.enc = (([] : List Value) ++ ([(.int .i64 x.replica)] ++ (x.name.enc ++ (x.hash.enc)))) ++ ([(.int .u64 x.time)] ++ (x.sig.enc ++ (([] : List Value)))) := by simp only [GStamp.enc, List.nil_append, List.append_assoc, List.append_nil]
  have e2 : ({ x with time := v } : GStamp).enc = (([] : List Value) ++ ([(.int .i64 x.replica)] ++ (x.name.enc ++ (x.hash.enc)))) ++ ([(.int .u64 v)] ++ (x.sig.enc ++ (([] : List Value)))) := by simp only [GStamp.enc, List.nil_append, List.append_assoc, List.append_nil]
  rw [e1, e2]; exact h
@[go_sem ↓ high] theorem xd_GStamp (ρ : Operand → Value) (dst : Option Tmp) (ps : Array (Nat × Operand)) (ty : TypeId) (pos : String) (after : Array Edge) (guard : Option (Nat × Bool)) : execOp ρ { dst, op := .build 41 ps, type := ty, pos, after, guard } = (do pure (.value (← gBuild 41 (ps.map fun (i, x) => (i, ρ x))))) := ex_build ..
@[go_sem ↓ high] theorem bd41_0 (w : World) (v0 : Int) (v1 : GName) (v2 : GHash) (v3 : Int) : (gBuild 41 #[(0, (.int .i64 v0)), (1, (v1.val)), (2, (v2.val)), (3, (.int .u64 v3))]).run Tryz.prog w = .ok (GStamp.val ⟨v0, v1, v2, v3, default⟩) w := by
  rw [GStamp.val_eq]
  refine run_gBuild_of uu41 zr41 pl41 ?_ w
  show Instr.fill _ (GStamp.enc default).toArray [(0, (.int .i64 v0)), (1, (v1.val)), (2, (v2.val)), (3, (.int .u64 v3))] = _
  rw [fs41_0, fs41_1, fs41_2, fs41_3]; rfl
theorem eq_GStamp (w : World) (d : Nat) (x y : GStamp) : (Op.equalIn (d + 3) 41 (GStamp.val x) (GStamp.val y)).run Tryz.prog w = .ok (decide (x = y)) w := by
  have q0 : ∀ a b, (Op.equalIn (d + 2) 3 (.int .i64 a) (.int .i64 b)).run Tryz.prog w = .ok (decide (a = b)) w := fun a b => by rw [run_equalIn_int w (d + 1) 3 .i64 .i64 a b uk3]; congr 1
  have q1 : (Op.equalIn (d + 2) 33 x.name.val y.name.val).run Tryz.prog w = .ok (decide (x.name = y.name)) w := eq_GName w (d + 0) _ _
  have q2 : (Op.equalIn (d + 2) 35 x.hash.val y.hash.val).run Tryz.prog w = .ok (decide (x.hash = y.hash)) w := eq_GHash w (d + 0) _ _
  have q3 : ∀ a b, (Op.equalIn (d + 2) 22 (.int .u64 a) (.int .u64 b)).run Tryz.prog w = .ok (decide (a = b)) w := fun a b => by rw [run_equalIn_int w (d + 1) 22 .u64 .u64 a b uk22]; congr 1
  have q4 : (Op.equalIn (d + 2) 37 x.sig.val y.sig.val).run Tryz.prog w = .ok (decide (x.sig = y.sig)) w := eq_GSig w (d + 0) _ _
  have h := run_equalIn_fields (d + 2) x.enc.toArray y.enc.toArray w uu41 st41 nb41
  rw [fl41] at h
  unfold GStamp.val
  refine h.trans ?_
  clear h
  simp only [eqFs, Sem.run_bind, pt41_0, pt41_1, pt41_2, pt41_3, pt41_4, q0, q1, q2, q3, q4, Result.andThen_ok, Sem.run_ite, Sem.run_pure]
  have he : decide (x = y) = (decide (x.replica = y.replica) && (decide (x.name = y.name) && (decide (x.hash = y.hash) && (decide (x.time = y.time) && (decide (x.sig = y.sig)))))) := by
    rw [Bool.eq_iff_iff]; simp only [Bool.and_eq_true, decide_eq_true_eq]; exact GStamp.ext_all x y
  rw [he]
  generalize decide (x.replica = y.replica) = c0; generalize decide (x.name = y.name) = c1; generalize decide (x.hash = y.hash) = c2; generalize decide (x.time = y.time) = c3; generalize decide (x.sig = y.sig) = c4
  cases c0 <;> cases c1 <;> cases c2 <;> cases c3 <;> cases c4 <;> simp
@[go_sem ↓ high] theorem xq_GStamp (ρ : Operand → Value) (dst : Option Tmp) (x y : Operand) (ty yt : TypeId) (pos : String) (after : Array Edge) (guard : Option (Nat × Bool)) : execOp ρ { dst, op := .binOp .eql 41 x y yt, type := ty, pos, after, guard } = (do pure (.value (← gBin .eql 41 x y (ρ x) (ρ y)))) := ex_eql ..
theorem eg_GStamp : Tryz.prog.eqGuardType Tryz.prog.depth 41 = false := by kernel_rfl
@[go_sem ↓ high] theorem eql_GStamp (w : World) (ox oy : Operand) (x y : GStamp) : (gBin .eql 41 ox oy (GStamp.val x) (GStamp.val y)).run Tryz.prog w = .ok (.bool (decide (x = y))) w := by
  have h2 := eq_GStamp w 9997 x y
  rw [GStamp.val_eq, GStamp.val_eq] at h2 ⊢
  have h := run_eqGuard_agg (P := Tryz.prog) w .eql 41 ox oy (Enc.enc x).toArray (Enc.enc y).toArray eg_GStamp
  unfold gBin
  simp only [Sem.run_bind, h, Result.andThen_ok, run_eql_struct, h2]
/-! ### gavel/api.Deny -/
structure GDeny where
  replica : Int
  index : Int
  sig : GSig
deriving DecidableEq
instance : Inhabited GDeny := ⟨⟨0, 0, default⟩⟩
def GDeny.enc (x : GDeny) : List Value := [(.int .i64 x.replica)] ++ ([(.int .i64 x.index)] ++ (x.sig.enc))
theorem GDeny.enc_len (x : GDeny) : x.enc.length = 4 := by simp [GDeny.enc, GSig.enc_len]
theorem GDeny.enc_one (x : GDeny) : ∀ u ∈ x.enc, u.oneCell' = true := by
  intro u hu
  simp only [GDeny.enc, List.mem_append, List.mem_singleton] at hu
  rcases hu with hu | hu | hu
  · subst hu; rfl
  · subst hu; rfl
  · exact Enc.one (α := GSig) _ _ hu
theorem GDeny.enc_inj (x y : GDeny) (h : x.enc = y.enc) : x = y := by
  obtain ⟨a0, a1, a2⟩ := x
  obtain ⟨b0, b1, b2⟩ := y
  simp only [GDeny.enc] at h
  obtain ⟨p0, q0⟩ := List.append_inj h (rfl)
  have e0 : a0 = b0 := by have := List.head_eq_of_cons_eq p0; injection this
  obtain ⟨p1, q1⟩ := List.append_inj q0 (rfl)
  have e1 : a1 = b1 := by have := List.head_eq_of_cons_eq p1; injection this
  have e2 := Enc.inj (α := GSig) _ _ q1
  rw [e0, e1, e2]
instance : Enc GDeny where
  n := 4
  enc := GDeny.enc
  pos := by omega
  len := GDeny.enc_len
  one := GDeny.enc_one
  inj := GDeny.enc_inj
@[go_sem] theorem GDeny.n_eq : Enc.n GDeny = 4 := rfl
@[irreducible] def GDeny.val (x : GDeny) : Value := .agg x.enc.toArray
theorem GDeny.val_eq (x : GDeny) : GDeny.val x = .agg (Enc.enc x).toArray := by unfold GDeny.val; rfl
theorem GDeny.ext_all (x y : GDeny) : x = y ↔ x.replica = y.replica ∧ x.index = y.index ∧ x.sig = y.sig := by
  constructor
  · intro h; cases h; simp
  · intro h; cases x; cases y; simp_all
theorem uu65 : Tryz.prog.underlying 65 = some (.struct (Tryz.prog.fieldsOf 65)) := by kernel_rfl
theorem st65 : Tryz.prog.stoodInHeld 65 = false := by kernel_rfl
theorem fl65 : fieldTO Tryz.prog 65 = [(3, 0), (3, 1), (37, 2)] := by kernel_rfl
theorem nb65 : noBlank Tryz.prog 65 = true := by kernel_rfl
@[go_sem ↓ high] theorem xl_GDeny (ρ : Operand → Value) (dst : Option Tmp) (x : Operand) (ty : TypeId) (pos : String) (after : Array Edge) (guard : Option (Nat × Bool)) : execOp ρ { dst, op := .load 65 x, type := ty, pos, after, guard } = (do pure (.value (← gLoad 65 (ρ x)))) := ex_load ..
theorem ag65 : aggT Tryz.prog 65 = true := by kernel_rfl
theorem sz65 : sizeT Tryz.prog 65 = 4 := by kernel_rfl
section
variable (w : World)
@[go_sem ↓ high] theorem ld_GDeny (a : Addr) : (gLoad 65 (.pointer (some a))).run Tryz.prog w = ofOpt ((get? GDeny w a).map GDeny.val) w (noLoad Tryz.prog 65 a w) := by
  unfold gLoad; exact run_loadAt_opt ag65 sz65 GDeny.val GDeny.val_eq
end
theorem lk65_0 (x : GDeny) : x.enc[0]? = some (.int .i64 x.replica) := by
  simp [GDeny.enc, List.getElem?_append]
theorem pt65_0 (w : World) (x : GDeny) : (part 3 x.enc.toArray 0).run Tryz.prog w = .ok (.int .i64 x.replica) w := run_part_one na3 us3 (lk65_0 x)
theorem lk65_1 (x : GDeny) : x.enc[1]? = some (.int .i64 x.index) := by
  simp [GDeny.enc, List.getElem?_append]
theorem pt65_1 (w : World) (x : GDeny) : (part 3 x.enc.toArray 1).run Tryz.prog w = .ok (.int .i64 x.index) w := run_part_one na3 us3 (lk65_1 x)
theorem ds65_2 (x : GDeny) : (x.enc.drop 2).take 2 = x.sig.enc := by
  unfold GDeny.enc
  simp [List.drop_append, List.drop_eq_nil_of_le] <;> (exact List.take_of_length_le (by simp [GSig.enc_len]))
theorem pt65_2 (w : World) (x : GDeny) : (part 37 x.enc.toArray 2).run Tryz.prog w = .ok (x.sig.val) w := by
  have h := run_part_agg (P := Tryz.prog) (w := w) (cs := x.enc) (ds := x.sig.enc) (off := 2) ag37 (by rw [GSig.enc_len]; exact sz37) (by simp [GSig.enc_len]) (by rw [GSig.enc_len]; exact ds65_2 x)
  rw [h, GSig.val_eq]; rfl
theorem eq_GDeny (w : World) (d : Nat) (x y : GDeny) : (Op.equalIn (d + 3) 65 (GDeny.val x) (GDeny.val y)).run Tryz.prog w = .ok (decide (x = y)) w := by
  have q0 : ∀ a b, (Op.equalIn (d + 2) 3 (.int .i64 a) (.int .i64 b)).run Tryz.prog w = .ok (decide (a = b)) w := fun a b => by rw [run_equalIn_int w (d + 1) 3 .i64 .i64 a b uk3]; congr 1
  have q1 : ∀ a b, (Op.equalIn (d + 2) 3 (.int .i64 a) (.int .i64 b)).run Tryz.prog w = .ok (decide (a = b)) w := fun a b => by rw [run_equalIn_int w (d + 1) 3 .i64 .i64 a b uk3]; congr 1
  have q2 : (Op.equalIn (d + 2) 37 x.sig.val y.sig.val).run Tryz.prog w = .ok (decide (x.sig = y.sig)) w := eq_GSig w (d + 0) _ _
  have h := run_equalIn_fields (d + 2) x.enc.toArray y.enc.toArray w uu65 st65 nb65
  rw [fl65] at h
  unfold GDeny.val
  refine h.trans ?_
  clear h
  simp only [eqFs, Sem.run_bind, pt65_0, pt65_1, pt65_2, q0, q1, q2, Result.andThen_ok, Sem.run_ite, Sem.run_pure]
  have he : decide (x = y) = (decide (x.replica = y.replica) && (decide (x.index = y.index) && (decide (x.sig = y.sig)))) := by
    rw [Bool.eq_iff_iff]; simp only [Bool.and_eq_true, decide_eq_true_eq]; exact GDeny.ext_all x y
  rw [he]
  generalize decide (x.replica = y.replica) = c0; generalize decide (x.index = y.index) = c1; generalize decide (x.sig = y.sig) = c2
  cases c0 <;> cases c1 <;> cases c2 <;> simp
@[go_sem ↓ high] theorem xq_GDeny (ρ : Operand → Value) (dst : Option Tmp) (x y : Operand) (ty yt : TypeId) (pos : String) (after : Array Edge) (guard : Option (Nat × Bool)) : execOp ρ { dst, op := .binOp .eql 65 x y yt, type := ty, pos, after, guard } = (do pure (.value (← gBin .eql 65 x y (ρ x) (ρ y)))) := ex_eql ..
theorem eg_GDeny : Tryz.prog.eqGuardType Tryz.prog.depth 65 = false := by kernel_rfl
@[go_sem ↓ high] theorem eql_GDeny (w : World) (ox oy : Operand) (x y : GDeny) : (gBin .eql 65 ox oy (GDeny.val x) (GDeny.val y)).run Tryz.prog w = .ok (.bool (decide (x = y))) w := by
  have h2 := eq_GDeny w 9997 x y
  rw [GDeny.val_eq, GDeny.val_eq] at h2 ⊢
  have h := run_eqGuard_agg (P := Tryz.prog) w .eql 65 ox oy (Enc.enc x).toArray (Enc.enc y).toArray eg_GDeny
  unfold gBin
  simp only [Sem.run_bind, h, Result.andThen_ok, run_eql_struct, h2]
/-! ### []ledger.place -/
/-! ### []uint8 -/
theorem ei61 : ElemI Tryz.prog 61 5 U8 1 := ⟨by kernel_rfl, by kernel_rfl⟩
/-! ### []api.Stamp -/
/-! ### []api.Cert -/
/-! ### []api.Promise -/
theorem ei50 : ElemI Tryz.prog 50 49 GPromise 64 := ⟨by kernel_rfl, by kernel_rfl⟩
@[go_sem ↓ high] theorem xg_50 (ρ : Operand → Value) (dst : Option Tmp) (ps : Array (Nat × Operand)) (ty : TypeId) (pos : String) (after : Array Edge) (guard : Option (Nat × Bool)) : execOp ρ { dst, op := .buildSlice 50 1 ps, type := ty, pos, after, guard } = (do pure (.value (← gBuildSlice 50 1 (ps.map fun (i, x) => (i, ρ x))))) := ex_buildSlice ..
@[go_sem ↓ high] theorem bs_50 (w : World) (x : GPromise) : (gBuildSlice 50 1 #[(0, GPromise.val x)]).run Tryz.prog w = .ok (.slice (some ⟨w.heap.size, 0, none⟩) 1 1) (w.alloc (.cells (GPromise.enc x).toArray 49)) := by
  rw [GPromise.val_eq]; exact run_buildSlice_one ei50 (by decide) x w
/-! ### []api.Opening -/
/-! ### []api.Tomb -/
instance : KEnc GName := ⟨GName.val, fun a b h => by rw [GName.val_eq, GName.val_eq] at h; injection h with h; exact Enc.inj _ _ (by simpa using congrArg Array.toList h)⟩
theorem kl33 : KeyLaws Tryz.prog 33 GName where
  chk := fun e k w => by
    show (Instr.checkKey e 10000 33 (GName.val k)).run Tryz.prog w = _
    rw [GName.val_eq]
    rw [run_checkKey_struct e 9999 _ w uu33 nb33, fl33]
    show (chkFs e 9999 k.enc.toArray _).run Tryz.prog w = _
    simp only [chkFs, Sem.run_bind, pt33_0, pt33_1, Result.andThen_ok, run_checkKey_one e 9998 uk3, Sem.run_pure]
  fnd := fnd_struct (fun k k' w => eq_GName w 9998 k k') uu33 (fun k k' => by show Instr.sameNow _ (GName.val k) (GName.val k') = none; rw [GName.val_eq, GName.val_eq]; rfl)
  same := fun k => by
    show Instr.sameBits 10000 (GName.val k) (GName.val k) = true
    rw [GName.val_eq]
    exact sameBits_cells 9999 _ (Enc.one k) (fun u hu => by
      have hu' : u ∈ k.enc := hu
      unfold GName.enc at hu'
      simp only [List.mem_append, List.mem_singleton] at hu'
      rcases hu' with rfl | rfl <;> exact sameBits_int _ _ _)

/-! ### map[api.Name]int -/
end Go.Proofs.YtfhhcgldikmejaaGreatDoor
/- The struct types of this seat as Lean types, with the runs of single operations over them. Conditions: those named in each theorem. -/
namespace Go.Proofs.YtfhhcgldikmejaaGreatDoor
open Go Go.RowKit Go.Gv
set_option linter.unusedSimpArgs false

theorem na9 : aggT Tryz.prog 9 = false := by kernel_rfl
theorem us9 : (Tryz.prog.underlying 9).isSome = true := by kernel_rfl
theorem uk9 : Tryz.prog.underlying 9 = some .string := by kernel_rfl
/-! ### gavel/code.Writer -/
structure GCodeWriter where
  b : Hdr
deriving DecidableEq
instance : Inhabited GCodeWriter := ⟨⟨default⟩⟩
def GCodeWriter.enc (x : GCodeWriter) : List Value := [(x.b.val)]
theorem GCodeWriter.enc_len (x : GCodeWriter) : x.enc.length = 1 := by simp [GCodeWriter.enc]
theorem GCodeWriter.enc_one (x : GCodeWriter) : ∀ u ∈ x.enc, u.oneCell' = true := by
  intro u hu
  simp only [GCodeWriter.enc, List.mem_append, List.mem_singleton] at hu
  subst hu; rfl
theorem GCodeWriter.enc_inj (x y : GCodeWriter) (h : x.enc = y.enc) : x = y := by
  obtain ⟨a0⟩ := x
  obtain ⟨b0⟩ := y
  simp only [GCodeWriter.enc] at h
  have e0 : a0 = b0 := Enc.inj (α := Hdr) _ _ h
  rw [e0]
instance : Enc GCodeWriter where
  n := 1
  enc := GCodeWriter.enc
  pos := by omega
  len := GCodeWriter.enc_len
  one := GCodeWriter.enc_one
  inj := GCodeWriter.enc_inj
@[go_sem] theorem GCodeWriter.n_eq : Enc.n GCodeWriter = 1 := rfl
@[irreducible] def GCodeWriter.val (x : GCodeWriter) : Value := .agg x.enc.toArray
theorem GCodeWriter.val_eq (x : GCodeWriter) : GCodeWriter.val x = .agg (Enc.enc x).toArray := by unfold GCodeWriter.val; rfl
@[go_sem ↓ high] theorem xb_GCodeWriter (ρ : Operand → Value) (dst : Option Tmp) (x : Operand) (ty : TypeId) (pos : String) (after : Array Edge) (guard : Option (Nat × Bool)) : execOp ρ { dst, op := .box 350 x, type := ty, pos, after, guard } = (do pure (.value (← gBox 350 (ρ x)))) := ex_box ..
section
variable (w : World)
@[go_sem ↓ high] theorem bx_GCodeWriter (x : GCodeWriter) : (gBox 350 (GCodeWriter.val x)).run Tryz.prog w = .ok (.pointer (some ⟨w.heap.size, 0, none⟩)) (w.alloc (.cells (GCodeWriter.enc x).toArray 350)) := by
  rw [GCodeWriter.val_eq]; exact run_gBox _ w
end
theorem lk350_0 (x : GCodeWriter) : x.enc[0]? = some (x.b.val) := by
  simp [GCodeWriter.enc, List.getElem?_append]
theorem GCodeWriter.at_b {w : World} {a : Addr} {x : GCodeWriter} (h : get? GCodeWriter w a = some x) : w.cell? (a.add 0) = some (x.b.val) := (get?_iff.1 h) _ _ (lk350_0 x)
/-! ### gavel/book.Book -/
structure GBookBook where
  marks : Option Nat
deriving DecidableEq
instance : Inhabited GBookBook := ⟨⟨none⟩⟩
def GBookBook.enc (x : GBookBook) : List Value := [(.map x.marks)]
theorem GBookBook.enc_len (x : GBookBook) : x.enc.length = 1 := by simp [GBookBook.enc]
theorem GBookBook.enc_one (x : GBookBook) : ∀ u ∈ x.enc, u.oneCell' = true := by
  intro u hu
  simp only [GBookBook.enc, List.mem_append, List.mem_singleton] at hu
  subst hu; rfl
theorem GBookBook.enc_inj (x y : GBookBook) (h : x.enc = y.enc) : x = y := by
  obtain ⟨a0⟩ := x
  obtain ⟨b0⟩ := y
  simp only [GBookBook.enc] at h
  have e0 : a0 = b0 := by have := List.head_eq_of_cons_eq h; injection this
  rw [e0]
instance : Enc GBookBook where
  n := 1
  enc := GBookBook.enc
  pos := by omega
  len := GBookBook.enc_len
  one := GBookBook.enc_one
  inj := GBookBook.enc_inj
@[go_sem] theorem GBookBook.n_eq : Enc.n GBookBook = 1 := rfl
@[irreducible] def GBookBook.val (x : GBookBook) : Value := .agg x.enc.toArray
theorem GBookBook.val_eq (x : GBookBook) : GBookBook.val x = .agg (Enc.enc x).toArray := by unfold GBookBook.val; rfl
theorem uu112 : Tryz.prog.underlying 112 = some (.struct (Tryz.prog.fieldsOf 112)) := by kernel_rfl
@[go_sem ↓ high] theorem xb_GBookBook (ρ : Operand → Value) (dst : Option Tmp) (x : Operand) (ty : TypeId) (pos : String) (after : Array Edge) (guard : Option (Nat × Bool)) : execOp ρ { dst, op := .box 112 x, type := ty, pos, after, guard } = (do pure (.value (← gBox 112 (ρ x)))) := ex_box ..
section
variable (w : World)
@[go_sem ↓ high] theorem bx_GBookBook (x : GBookBook) : (gBox 112 (GBookBook.val x)).run Tryz.prog w = .ok (.pointer (some ⟨w.heap.size, 0, none⟩)) (w.alloc (.cells (GBookBook.enc x).toArray 112)) := by
  rw [GBookBook.val_eq]; exact run_gBox _ w
end
theorem lk112_0 (x : GBookBook) : x.enc[0]? = some (.map x.marks) := by
  simp [GBookBook.enc, List.getElem?_append]
theorem zr112 : zeroT Tryz.prog 112 = some (.agg (GBookBook.enc default).toArray) := by kernel_rfl
theorem GBookBook.at_marks {w : World} {a : Addr} {x : GBookBook} (h : get? GBookBook w a = some x) : w.cell? (a.add 0) = some (.map x.marks) := (get?_iff.1 h) _ _ (lk112_0 x)
@[go_sem] theorem nw112 (w : World) (n : Nat) (x : GBookBook) (hn : n = w.heap.size) : get? GBookBook (w.alloc (.cells (GBookBook.enc x).toArray 112)) ⟨n, 0, none⟩ = some x := by
  subst hn; exact get?_new 112 x
theorem pl112 : ((Tryz.prog.fieldsOf 112).toList.mapM fun f => (Tryz.prog.info? f.type).map fun i => (f.offset, i.size)) = some [(0, 1)] := by kernel_rfl
theorem fs112_0 (x : GBookBook) (v : Option Nat) (rest : List (Nat × Value)) : Instr.fill (fun i => ([(0, 1)] : List (Nat × Nat))[i]?) x.enc.toArray ((0, (.map v)) :: rest) = Instr.fill (fun i => ([(0, 1)] : List (Nat × Nat))[i]?) ({ x with marks := v } : GBookBook).enc.toArray rest := by
  have h := fill_seg [(0, 1)] 0 0 1 rfl (([] : List Value)) ([(.map x.marks)]) (([] : List Value)) ([(.map v)]) (.map v) rest (rfl) (by simp) (by simp) (by simp)
  have e1 : x.enc = (([] : List Value)) ++ ([(.map x.marks)] ++ (([] : List Value))) := by simp only [GBookBook.enc, List.nil_append, List.append_assoc, List.append_nil]
  have e2 : ({ x with marks := v } : GBookBook).enc = (([] : List Value)) ++ ([(.map v)] ++ (([] : List Value))) := by simp only [GBookBook.enc, List.nil_append, List.append_assoc, List.append_nil]
  rw [e1, e2]; exact h
@[go_sem ↓ high] theorem xd_GBookBook (ρ : Operand → Value) (dst : Option Tmp) (ps : Array (Nat × Operand)) (ty : TypeId) (pos : String) (after : Array Edge) (guard : Option (Nat × Bool)) : execOp ρ { dst, op := .build 112 ps, type := ty, pos, after, guard } = (do pure (.value (← gBuild 112 (ps.map fun (i, x) => (i, ρ x))))) := ex_build ..
@[go_sem ↓ high] theorem bd112_0 (w : World) (v0 : Option Nat) : (gBuild 112 #[(0, (.map v0))]).run Tryz.prog w = .ok (GBookBook.val ⟨v0⟩) w := by
  rw [GBookBook.val_eq]
  refine run_gBuild_of uu112 zr112 pl112 ?_ w
  show Instr.fill _ (GBookBook.enc default).toArray [(0, (.map v0))] = _
  rw [fs112_0]; rfl

/-! ### gavel/book.signed -/
structure GBookSigned where
  by_ : Int
  text : ByteArray
deriving DecidableEq
instance : Inhabited GBookSigned := ⟨⟨0, ByteArray.empty⟩⟩
def GBookSigned.enc (x : GBookSigned) : List Value := [(.int .i64 x.by_)] ++ ([(.string x.text)])
theorem GBookSigned.enc_len (x : GBookSigned) : x.enc.length = 2 := by simp [GBookSigned.enc]
theorem GBookSigned.enc_one (x : GBookSigned) : ∀ u ∈ x.enc, u.oneCell' = true := by
  intro u hu
  simp only [GBookSigned.enc, List.mem_append, List.mem_singleton] at hu
  rcases hu with hu | hu
  · subst hu; rfl
  · subst hu; rfl
theorem GBookSigned.enc_inj (x y : GBookSigned) (h : x.enc = y.enc) : x = y := by
  obtain ⟨a0, a1⟩ := x
  obtain ⟨b0, b1⟩ := y
  simp only [GBookSigned.enc] at h
  obtain ⟨p0, q0⟩ := List.append_inj h (rfl)
  have e0 : a0 = b0 := by have := List.head_eq_of_cons_eq p0; injection this
  have e1 : a1 = b1 := by have := List.head_eq_of_cons_eq q0; injection this
  rw [e0, e1]
instance : Enc GBookSigned where
  n := 2
  enc := GBookSigned.enc
  pos := by omega
  len := GBookSigned.enc_len
  one := GBookSigned.enc_one
  inj := GBookSigned.enc_inj
@[go_sem] theorem GBookSigned.n_eq : Enc.n GBookSigned = 2 := rfl
@[irreducible] def GBookSigned.val (x : GBookSigned) : Value := .agg x.enc.toArray
theorem GBookSigned.val_eq (x : GBookSigned) : GBookSigned.val x = .agg (Enc.enc x).toArray := by unfold GBookSigned.val; rfl
theorem GBookSigned.ext_all (x y : GBookSigned) : x = y ↔ x.by_ = y.by_ ∧ x.text = y.text := by
  constructor
  · intro h; cases h; simp
  · intro h; cases x; cases y; simp_all
theorem uu109 : Tryz.prog.underlying 109 = some (.struct (Tryz.prog.fieldsOf 109)) := by kernel_rfl
theorem st109 : Tryz.prog.stoodInHeld 109 = false := by kernel_rfl
theorem fl109 : fieldTO Tryz.prog 109 = [(3, 0), (9, 1)] := by kernel_rfl
theorem nb109 : noBlank Tryz.prog 109 = true := by kernel_rfl
@[go_sem ↓ high] theorem xl_GBookSigned (ρ : Operand → Value) (dst : Option Tmp) (x : Operand) (ty : TypeId) (pos : String) (after : Array Edge) (guard : Option (Nat × Bool)) : execOp ρ { dst, op := .load 109 x, type := ty, pos, after, guard } = (do pure (.value (← gLoad 109 (ρ x)))) := ex_load ..
@[go_sem ↓ high] theorem xs_GBookSigned (ρ : Operand → Value) (dst : Option Tmp) (x y : Operand) (ty : TypeId) (pos : String) (after : Array Edge) (guard : Option (Nat × Bool)) : execOp ρ { dst, op := .store 109 x y, type := ty, pos, after, guard } = (do gStore 109 (ρ x) (ρ y); pure .skip) := ex_store ..
@[go_sem ↓ high] theorem xa_GBookSigned (ρ : Operand → Value) (dst : Option Tmp) (ty : TypeId) (pos : String) (after : Array Edge) (guard : Option (Nat × Bool)) : execOp ρ { dst, op := .alloc 109, type := ty, pos, after, guard } = (do pure (.value (← gAlloc 109))) := ex_alloc ..
theorem ag109 : aggT Tryz.prog 109 = true := by kernel_rfl
theorem sz109 : sizeT Tryz.prog 109 = 2 := by kernel_rfl
section
variable (w : World)
@[go_sem ↓ high] theorem ld_GBookSigned (a : Addr) : (gLoad 109 (.pointer (some a))).run Tryz.prog w = ofOpt ((get? GBookSigned w a).map GBookSigned.val) w (noLoad Tryz.prog 109 a w) := by
  unfold gLoad; exact run_loadAt_opt ag109 sz109 GBookSigned.val GBookSigned.val_eq
@[go_sem ↓ high] theorem st_GBookSigned (a : Addr) (x : GBookSigned) : (gStore 109 (.pointer (some a)) (GBookSigned.val x)).run Tryz.prog w = okU' ((get? GBookSigned w a).isSome && blkFree w a.block) (World.putCells w a (GBookSigned.enc x)) (noStore Tryz.prog 109 (.pointer (some a)) (GBookSigned.val x) w) := run_gStore_any sz109 GBookSigned.val GBookSigned.val_eq w a x
end
theorem lk109_0 (x : GBookSigned) : x.enc[0]? = some (.int .i64 x.by_) := by
  simp [GBookSigned.enc, List.getElem?_append]
theorem pt109_0 (w : World) (x : GBookSigned) : (part 3 x.enc.toArray 0).run Tryz.prog w = .ok (.int .i64 x.by_) w := run_part_one na3 us3 (lk109_0 x)
theorem lk109_1 (x : GBookSigned) : x.enc[1]? = some (.string x.text) := by
  simp [GBookSigned.enc, List.getElem?_append]
theorem pt109_1 (w : World) (x : GBookSigned) : (part 9 x.enc.toArray 1).run Tryz.prog w = .ok (.string x.text) w := run_part_one na9 us9 (lk109_1 x)
theorem zr109 : zeroT Tryz.prog 109 = some (.agg (GBookSigned.enc default).toArray) := by kernel_rfl
@[go_sem ↓ high] theorem al_GBookSigned (w : World) : (gAlloc 109).run Tryz.prog w = .ok (.pointer (some ⟨w.heap.size, 0, none⟩)) (w.alloc (.cells (GBookSigned.enc default).toArray 109)) := run_zero_alloc zr109 w
@[go_sem] theorem pc_GBookSigned (w : World) (n : Nat) (x z : GBookSigned) (hn : n = w.heap.size) : World.putCells (w.alloc (.cells (GBookSigned.enc z).toArray 109)) ⟨n, 0, none⟩ (GBookSigned.enc x) = w.alloc (.cells (GBookSigned.enc x).toArray 109) := putCells_top x z hn
@[go_sem] theorem nw109 (w : World) (n : Nat) (x : GBookSigned) (hn : n = w.heap.size) : get? GBookSigned (w.alloc (.cells (GBookSigned.enc x).toArray 109)) ⟨n, 0, none⟩ = some x := by
  subst hn; exact get?_new 109 x
theorem pl109 : ((Tryz.prog.fieldsOf 109).toList.mapM fun f => (Tryz.prog.info? f.type).map fun i => (f.offset, i.size)) = some [(0, 1), (1, 1)] := by kernel_rfl
theorem fs109_0 (x : GBookSigned) (v : Int) (rest : List (Nat × Value)) : Instr.fill (fun i => ([(0, 1), (1, 1)] : List (Nat × Nat))[i]?) x.enc.toArray ((0, (.int .i64 v)) :: rest) = Instr.fill (fun i => ([(0, 1), (1, 1)] : List (Nat × Nat))[i]?) ({ x with by_ := v } : GBookSigned).enc.toArray rest := by
  have h := fill_seg [(0, 1), (1, 1)] 0 0 1 rfl (([] : List Value)) ([(.int .i64 x.by_)]) ([(.string x.text)] ++ (([] : List Value))) ([(.int .i64 v)]) (.int .i64 v) rest (rfl) (by simp) (by simp) (by simp)
  have e1 : x.enc = (([] : List Value)) ++ ([(.int .i64 x.by_)] ++ ([(.string x.text)] ++ (([] : List Value)))) := by simp only [GBookSigned.enc, List.nil_append, List.append_assoc, List.append_nil]
  have e2 : ({ x with by_ := v } : GBookSigned).enc = (([] : List Value)) ++ ([(.int .i64 v)] ++ ([(.string x.text)] ++ (([] : List Value)))) := by simp only [GBookSigned.enc, List.nil_append, List.append_assoc, List.append_nil]
  rw [e1, e2]; exact h
theorem fs109_1 (x : GBookSigned) (v : ByteArray) (rest : List (Nat × Value)) : Instr.fill (fun i => ([(0, 1), (1, 1)] : List (Nat × Nat))[i]?) x.enc.toArray ((1, (.string v)) :: rest) = Instr.fill (fun i => ([(0, 1), (1, 1)] : List (Nat × Nat))[i]?) ({ x with text := v } : GBookSigned).enc.toArray rest := by
  have h := fill_seg [(0, 1), (1, 1)] 1 1 1 rfl (([] : List Value) ++ ([(.int .i64 x.by_)])) ([(.string x.text)]) (([] : List Value)) ([(.string v)]) (.string v) rest (rfl) (by simp) (by simp) (by simp)
  have e1 : x.enc = (([] : List Value) ++ ([(.int .i64 x.by_)])) ++ ([(.string x.text)] ++ (([] : List Value))) := by simp only [GBookSigned.enc, List.nil_append, List.append_assoc, List.append_nil]
  have e2 : ({ x with text := v } : GBookSigned).enc = (([] : List Value) ++ ([(.int .i64 x.by_)])) ++ ([(.string v)] ++ (([] : List Value))) := by simp only [GBookSigned.enc, List.nil_append, List.append_assoc, List.append_nil]
  rw [e1, e2]; exact h
@[go_sem ↓ high] theorem xd_GBookSigned (ρ : Operand → Value) (dst : Option Tmp) (ps : Array (Nat × Operand)) (ty : TypeId) (pos : String) (after : Array Edge) (guard : Option (Nat × Bool)) : execOp ρ { dst, op := .build 109 ps, type := ty, pos, after, guard } = (do pure (.value (← gBuild 109 (ps.map fun (i, x) => (i, ρ x))))) := ex_build ..
@[go_sem ↓ high] theorem bd109_0 (w : World) (v0 : Int) (v1 : ByteArray) : (gBuild 109 #[(0, (.int .i64 v0)), (1, (.string v1))]).run Tryz.prog w = .ok (GBookSigned.val ⟨v0, v1⟩) w := by
  rw [GBookSigned.val_eq]
  refine run_gBuild_of uu109 zr109 pl109 ?_ w
  show Instr.fill _ (GBookSigned.enc default).toArray [(0, (.int .i64 v0)), (1, (.string v1))] = _
  rw [fs109_0, fs109_1]; rfl
theorem eq_GBookSigned (w : World) (d : Nat) (x y : GBookSigned) : (Op.equalIn (d + 2) 109 (GBookSigned.val x) (GBookSigned.val y)).run Tryz.prog w = .ok (decide (x = y)) w := by
  have q0 : ∀ a b, (Op.equalIn (d + 1) 3 (.int .i64 a) (.int .i64 b)).run Tryz.prog w = .ok (decide (a = b)) w := fun a b => by rw [run_equalIn_int w (d + 0) 3 .i64 .i64 a b uk3]; congr 1
  have q1 : ∀ a b, (Op.equalIn (d + 1) 9 (.string a) (.string b)).run Tryz.prog w = .ok (decide (a = b)) w := fun a b => by rw [run_equalIn_string w (d + 0) 9 a b uk9, bytes_beq]
  have h := run_equalIn_fields (d + 1) x.enc.toArray y.enc.toArray w uu109 st109 nb109
  rw [fl109] at h
  unfold GBookSigned.val
  refine h.trans ?_
  clear h
  simp only [eqFs, Sem.run_bind, pt109_0, pt109_1, q0, q1, Result.andThen_ok, Sem.run_ite, Sem.run_pure]
  have he : decide (x = y) = (decide (x.by_ = y.by_) && (decide (x.text = y.text))) := by
    rw [Bool.eq_iff_iff]; simp only [Bool.and_eq_true, decide_eq_true_eq]; exact GBookSigned.ext_all x y
  rw [he]
  generalize decide (x.by_ = y.by_) = c0; generalize decide (x.text = y.text) = c1
  cases c0 <;> cases c1 <;> simp
/-! ### gavel/stamp.Stamper -/
structure GStampStamper where
  c : GConf
  replica : Int
  now : Int
  floor : Int
  last : Int
  stamps : Option Nat
deriving DecidableEq
instance : Inhabited GStampStamper := ⟨⟨default, 0, 0, 0, 0, none⟩⟩
def GStampStamper.enc (x : GStampStamper) : List Value := x.c.enc ++ ([(.int .i64 x.replica)] ++ ([(.int .u64 x.now)] ++ ([(.int .u64 x.floor)] ++ ([(.int .u64 x.last)] ++ ([(.map x.stamps)])))))
theorem GStampStamper.enc_len (x : GStampStamper) : x.enc.length = 7 := by simp [GStampStamper.enc, GConf.enc_len]
theorem GStampStamper.enc_one (x : GStampStamper) : ∀ u ∈ x.enc, u.oneCell' = true := by
  intro u hu
  simp only [GStampStamper.enc, List.mem_append, List.mem_singleton] at hu
  rcases hu with hu | hu | hu | hu | hu | hu
  · exact Enc.one (α := GConf) _ _ hu
  · subst hu; rfl
  · subst hu; rfl
  · subst hu; rfl
  · subst hu; rfl
  · subst hu; rfl
theorem GStampStamper.enc_inj (x y : GStampStamper) (h : x.enc = y.enc) : x = y := by
  obtain ⟨a0, a1, a2, a3, a4, a5⟩ := x
  obtain ⟨b0, b1, b2, b3, b4, b5⟩ := y
  simp only [GStampStamper.enc] at h
  obtain ⟨p0, q0⟩ := List.append_inj h (by simp [GConf.enc_len])
  have e0 := Enc.inj (α := GConf) _ _ p0
  obtain ⟨p1, q1⟩ := List.append_inj q0 (rfl)
  have e1 : a1 = b1 := by have := List.head_eq_of_cons_eq p1; injection this
  obtain ⟨p2, q2⟩ := List.append_inj q1 (rfl)
  have e2 : a2 = b2 := by have := List.head_eq_of_cons_eq p2; injection this
  obtain ⟨p3, q3⟩ := List.append_inj q2 (rfl)
  have e3 : a3 = b3 := by have := List.head_eq_of_cons_eq p3; injection this
  obtain ⟨p4, q4⟩ := List.append_inj q3 (rfl)
  have e4 : a4 = b4 := by have := List.head_eq_of_cons_eq p4; injection this
  have e5 : a5 = b5 := by have := List.head_eq_of_cons_eq q4; injection this
  rw [e0, e1, e2, e3, e4, e5]
instance : Enc GStampStamper where
  n := 7
  enc := GStampStamper.enc
  pos := by omega
  len := GStampStamper.enc_len
  one := GStampStamper.enc_one
  inj := GStampStamper.enc_inj
@[go_sem] theorem GStampStamper.n_eq : Enc.n GStampStamper = 7 := rfl
@[irreducible] def GStampStamper.val (x : GStampStamper) : Value := .agg x.enc.toArray
theorem GStampStamper.val_eq (x : GStampStamper) : GStampStamper.val x = .agg (Enc.enc x).toArray := by unfold GStampStamper.val; rfl
theorem uu158 : Tryz.prog.underlying 158 = some (.struct (Tryz.prog.fieldsOf 158)) := by kernel_rfl
@[go_sem ↓ high] theorem xb_GStampStamper (ρ : Operand → Value) (dst : Option Tmp) (x : Operand) (ty : TypeId) (pos : String) (after : Array Edge) (guard : Option (Nat × Bool)) : execOp ρ { dst, op := .box 158 x, type := ty, pos, after, guard } = (do pure (.value (← gBox 158 (ρ x)))) := ex_box ..
section
variable (w : World)
@[go_sem ↓ high] theorem bx_GStampStamper (x : GStampStamper) : (gBox 158 (GStampStamper.val x)).run Tryz.prog w = .ok (.pointer (some ⟨w.heap.size, 0, none⟩)) (w.alloc (.cells (GStampStamper.enc x).toArray 158)) := by
  rw [GStampStamper.val_eq]; exact run_gBox _ w
end
theorem ds158_0 (x : GStampStamper) : (x.enc.drop 0).take 2 = x.c.enc := by
  unfold GStampStamper.enc
  simp only [List.drop_zero] <;> (rw [List.take_append_of_le_length (by simp [GConf.enc_len])]; exact List.take_of_length_le (by simp [GConf.enc_len]))
theorem lk158_1 (x : GStampStamper) : x.enc[2]? = some (.int .i64 x.replica) := by
  simp [GStampStamper.enc, List.getElem?_append, GConf.enc_len]
theorem lk158_2 (x : GStampStamper) : x.enc[3]? = some (.int .u64 x.now) := by
  simp [GStampStamper.enc, List.getElem?_append, GConf.enc_len]
theorem lk158_3 (x : GStampStamper) : x.enc[4]? = some (.int .u64 x.floor) := by
  simp [GStampStamper.enc, List.getElem?_append, GConf.enc_len]
theorem lk158_4 (x : GStampStamper) : x.enc[5]? = some (.int .u64 x.last) := by
  simp [GStampStamper.enc, List.getElem?_append, GConf.enc_len]
theorem lk158_5 (x : GStampStamper) : x.enc[6]? = some (.map x.stamps) := by
  simp [GStampStamper.enc, List.getElem?_append, GConf.enc_len]
theorem zr158 : zeroT Tryz.prog 158 = some (.agg (GStampStamper.enc default).toArray) := by kernel_rfl
theorem GStampStamper.at_c {w : World} {a : Addr} {x : GStampStamper} (h : get? GStampStamper w a = some x) : get? GConf w (a.add 0) = some x.c := by
  rw [get?_iff] at h ⊢
  refine h.sub 0 fun j v hv => ?_
  have hd := ds158_0 x
  have hj : j < 2 := by have := (List.getElem?_eq_some_iff.1 hv).1; rwa [Enc.len] at this
  show x.enc[0 + j]? = some v
  rw [← List.getElem?_drop, ← List.getElem?_take_of_lt hj, hd]; exact hv
theorem GStampStamper.at_replica {w : World} {a : Addr} {x : GStampStamper} (h : get? GStampStamper w a = some x) : w.cell? (a.add 2) = some (.int .i64 x.replica) := (get?_iff.1 h) _ _ (lk158_1 x)
theorem GStampStamper.at_now {w : World} {a : Addr} {x : GStampStamper} (h : get? GStampStamper w a = some x) : w.cell? (a.add 3) = some (.int .u64 x.now) := (get?_iff.1 h) _ _ (lk158_2 x)
theorem GStampStamper.at_floor {w : World} {a : Addr} {x : GStampStamper} (h : get? GStampStamper w a = some x) : w.cell? (a.add 4) = some (.int .u64 x.floor) := (get?_iff.1 h) _ _ (lk158_3 x)
theorem GStampStamper.at_last {w : World} {a : Addr} {x : GStampStamper} (h : get? GStampStamper w a = some x) : w.cell? (a.add 5) = some (.int .u64 x.last) := (get?_iff.1 h) _ _ (lk158_4 x)
theorem GStampStamper.at_stamps {w : World} {a : Addr} {x : GStampStamper} (h : get? GStampStamper w a = some x) : w.cell? (a.add 6) = some (.map x.stamps) := (get?_iff.1 h) _ _ (lk158_5 x)
@[go_sem] theorem nw158 (w : World) (n : Nat) (x : GStampStamper) (hn : n = w.heap.size) : get? GStampStamper (w.alloc (.cells (GStampStamper.enc x).toArray 158)) ⟨n, 0, none⟩ = some x := by
  subst hn; exact get?_new 158 x
theorem pl158 : ((Tryz.prog.fieldsOf 158).toList.mapM fun f => (Tryz.prog.info? f.type).map fun i => (f.offset, i.size)) = some [(0, 2), (2, 1), (3, 1), (4, 1), (5, 1), (6, 1)] := by kernel_rfl
theorem fs158_0 (x : GStampStamper) (v : GConf) (rest : List (Nat × Value)) : Instr.fill (fun i => ([(0, 2), (2, 1), (3, 1), (4, 1), (5, 1), (6, 1)] : List (Nat × Nat))[i]?) x.enc.toArray ((0, (v.val)) :: rest) = Instr.fill (fun i => ([(0, 2), (2, 1), (3, 1), (4, 1), (5, 1), (6, 1)] : List (Nat × Nat))[i]?) ({ x with c := v } : GStampStamper).enc.toArray rest := by
  have h := fill_seg [(0, 2), (2, 1), (3, 1), (4, 1), (5, 1), (6, 1)] 0 0 2 rfl (([] : List Value)) (x.c.enc) ([(.int .i64 x.replica)] ++ ([(.int .u64 x.now)] ++ ([(.int .u64 x.floor)] ++ ([(.int .u64 x.last)] ++ ([(.map x.stamps)] ++ (([] : List Value))))))) (v.enc) (v.val) rest (by rw [GConf.val_eq]; rfl) (by simp [GConf.enc_len]) (by simp [GConf.enc_len]) (by simp [GConf.enc_len])
  have e1 : x.enc = (([] : List Value)) ++ (x.c.enc ++ ([(.int .i64 x.replica)] ++ ([(.int .u64 x.now)] ++ ([(.int .u64 x.floor)] ++ ([(.int .u64 x.last)] ++ ([(.map x.stamps)] ++ (([] : List Value)))))))) := by simp only [GStampStamper.enc, List.nil_append, List.append_assoc, List.append_nil]
  have e2 : ({ x with c := v } : GStampStamper).enc = (([] : List Value)) ++ (v.enc ++ ([(.int .i64 x.replica)] ++ ([(.int .u64 x.now)] ++ ([(.int .u64 x.floor)] ++ ([(.int .u64 x.last)] ++ ([(.map x.stamps)] ++ (([] : List Value)))))))) := by simp only [GStampStamper.enc, List.nil_append, List.append_assoc, List.append_nil]
  rw [e1, e2]; exact h
theorem fs158_1 (x : GStampStamper) (v : Int) (rest : List (Nat × Value)) : Instr.fill (fun i => ([(0, 2), (2, 1), (3, 1), (4, 1), (5, 1), (6, 1)] : List (Nat × Nat))[i]?) x.enc.toArray ((1, (.int .i64 v)) :: rest) = Instr.fill (fun i => ([(0, 2), (2, 1), (3, 1), (4, 1), (5, 1), (6, 1)] : List (Nat × Nat))[i]?) ({ x with replica := v } : GStampStamper).enc.toArray rest := by
  have h := fill_seg [(0, 2), (2, 1), (3, 1), (4, 1), (5, 1), (6, 1)] 1 2 1 rfl (([] : List Value) ++ (x.c.enc)) ([(.int .i64 x.replica)]) ([(.int .u64 x.now)] ++ ([(.int .u64 x.floor)] ++ ([(.int .u64 x.last)] ++ ([(.map x.stamps)] ++ (([] : List Value)))))) ([(.int .i64 v)]) (.int .i64 v) rest (rfl) (by simp [GConf.enc_len]) (by simp [GConf.enc_len]) (by simp [GConf.enc_len])
  have e1 : x.enc = (([] : List Value) ++ (x.c.enc)) ++ ([(.int .i64 x.replica)] ++ ([(.int .u64 x.now)] ++ ([(.int .u64 x.floor)] ++ ([(.int .u64 x.last)] ++ ([(.map x.stamps)] ++ (([] : List Value))))))) := by simp only [GStampStamper.enc, List.nil_append, List.append_assoc, List.append_nil]
  have e2 : ({ x with replica := v } : GStampStamper).enc = (([] : List Value) ++ (x.c.enc)) ++ ([(.int .i64 v)] ++ ([(.int .u64 x.now)] ++ ([(.int .u64 x.floor)] ++ ([(.int .u64 x.last)] ++ ([(.map x.stamps)] ++ (([] : List Value))))))) := by simp only [GStampStamper.enc, List.nil_append, List.append_assoc, List.append_nil]
  rw [e1, e2]; exact h
theorem fs158_5 (x : GStampStamper) (v : Option Nat) (rest : List (Nat × Value)) : Instr.fill (fun i => ([(0, 2), (2, 1), (3, 1), (4, 1), (5, 1), (6, 1)] : List (Nat × Nat))[i]?) x.enc.toArray ((5, (.map v)) :: rest) = Instr.fill (fun i => ([(0, 2), (2, 1), (3, 1), (4, 1), (5, 1), (6, 1)] : List (Nat × Nat))[i]?) ({ x with stamps := v } : GStampStamper).enc.toArray rest := by
  have h := fill_seg [(0, 2), (2, 1), (3, 1), (4, 1), (5, 1), (6, 1)] 5 6 1 rfl (([] : List Value) ++ (x.c.enc ++ ([(.int .i64 x.replica)] ++ ([(.int .u64 x.now)] ++ ([(.int .u64 x.floor)] ++ ([(.int .u64 x.last)])))))) ([(.map x.stamps)]) (([] : List Value)) ([(.map v)]) (.map v) rest (rfl) (by simp [GConf.enc_len]) (by simp [GConf.enc_len]) (by simp [GConf.enc_len])
  have e1 : x.enc = (([] : List Value) ++ (x.c.enc ++ ([(.int .i64 x.replica)] ++ ([(.int .u64 x.now)] ++ ([(.int .u64 x.floor)] ++ ([(.int .u64 x.last)])))))) ++ ([(.map x.stamps)] ++ (([] : List Value))) := by simp only [GStampStamper.enc, List.nil_append, List.append_assoc, List.append_nil]
  have e2 : ({ x with stamps := v } : GStampStamper).enc = (([] : List Value) ++ (x.c.enc ++ ([(.int .i64 x.replica)] ++ ([(.int .u64 x.now)] ++ ([(.int .u64 x.floor)] ++ ([(.int .u64 x.last)])))))) ++ ([(.map v)] ++ (([] : List Value))) := by simp only [GStampStamper.enc, List.nil_append, List.append_assoc, List.append_nil]
  rw [e1, e2]; exact h
@[go_sem ↓ high] theorem xd_GStampStamper (ρ : Operand → Value) (dst : Option Tmp) (ps : Array (Nat × Operand)) (ty : TypeId) (pos : String) (after : Array Edge) (guard : Option (Nat × Bool)) : execOp ρ { dst, op := .build 158 ps, type := ty, pos, after, guard } = (do pure (.value (← gBuild 158 (ps.map fun (i, x) => (i, ρ x))))) := ex_build ..
@[go_sem ↓ high] theorem bd158_0 (w : World) (v0 : GConf) (v1 : Int) (v5 : Option Nat) : (gBuild 158 #[(0, (v0.val)), (1, (.int .i64 v1)), (5, (.map v5))]).run Tryz.prog w = .ok (GStampStamper.val ⟨v0, v1, 0, 0, 0, v5⟩) w := by
  rw [GStampStamper.val_eq]
  refine run_gBuild_of uu158 zr158 pl158 ?_ w
  show Instr.fill _ (GStampStamper.enc default).toArray [(0, (v0.val)), (1, (.int .i64 v1)), (5, (.map v5))] = _
  rw [fs158_0, fs158_1, fs158_5]; rfl

/-! ### gavel/lock.Table -/
structure GLockTable where
  c : GConf
  replica : Int
  held : Option Nat
deriving DecidableEq
instance : Inhabited GLockTable := ⟨⟨default, 0, none⟩⟩
def GLockTable.enc (x : GLockTable) : List Value := x.c.enc ++ ([(.int .i64 x.replica)] ++ ([(.map x.held)]))
theorem GLockTable.enc_len (x : GLockTable) : x.enc.length = 4 := by simp [GLockTable.enc, GConf.enc_len]
theorem GLockTable.enc_one (x : GLockTable) : ∀ u ∈ x.enc, u.oneCell' = true := by
  intro u hu
  simp only [GLockTable.enc, List.mem_append, List.mem_singleton] at hu
  rcases hu with hu | hu | hu
  · exact Enc.one (α := GConf) _ _ hu
  · subst hu; rfl
  · subst hu; rfl
theorem GLockTable.enc_inj (x y : GLockTable) (h : x.enc = y.enc) : x = y := by
  obtain ⟨a0, a1, a2⟩ := x
  obtain ⟨b0, b1, b2⟩ := y
  simp only [GLockTable.enc] at h
  obtain ⟨p0, q0⟩ := List.append_inj h (by simp [GConf.enc_len])
  have e0 := Enc.inj (α := GConf) _ _ p0
  obtain ⟨p1, q1⟩ := List.append_inj q0 (rfl)
  have e1 : a1 = b1 := by have := List.head_eq_of_cons_eq p1; injection this
  have e2 : a2 = b2 := by have := List.head_eq_of_cons_eq q1; injection this
  rw [e0, e1, e2]
instance : Enc GLockTable where
  n := 4
  enc := GLockTable.enc
  pos := by omega
  len := GLockTable.enc_len
  one := GLockTable.enc_one
  inj := GLockTable.enc_inj
@[go_sem] theorem GLockTable.n_eq : Enc.n GLockTable = 4 := rfl
@[irreducible] def GLockTable.val (x : GLockTable) : Value := .agg x.enc.toArray
theorem GLockTable.val_eq (x : GLockTable) : GLockTable.val x = .agg (Enc.enc x).toArray := by unfold GLockTable.val; rfl
theorem uu175 : Tryz.prog.underlying 175 = some (.struct (Tryz.prog.fieldsOf 175)) := by kernel_rfl
@[go_sem ↓ high] theorem xb_GLockTable (ρ : Operand → Value) (dst : Option Tmp) (x : Operand) (ty : TypeId) (pos : String) (after : Array Edge) (guard : Option (Nat × Bool)) : execOp ρ { dst, op := .box 175 x, type := ty, pos, after, guard } = (do pure (.value (← gBox 175 (ρ x)))) := ex_box ..
section
variable (w : World)
@[go_sem ↓ high] theorem bx_GLockTable (x : GLockTable) : (gBox 175 (GLockTable.val x)).run Tryz.prog w = .ok (.pointer (some ⟨w.heap.size, 0, none⟩)) (w.alloc (.cells (GLockTable.enc x).toArray 175)) := by
  rw [GLockTable.val_eq]; exact run_gBox _ w
end
theorem lk175_1 (x : GLockTable) : x.enc[2]? = some (.int .i64 x.replica) := by
  simp [GLockTable.enc, List.getElem?_append, GConf.enc_len]
theorem lk175_2 (x : GLockTable) : x.enc[3]? = some (.map x.held) := by
  simp [GLockTable.enc, List.getElem?_append, GConf.enc_len]
theorem zr175 : zeroT Tryz.prog 175 = some (.agg (GLockTable.enc default).toArray) := by kernel_rfl
theorem GLockTable.at_replica {w : World} {a : Addr} {x : GLockTable} (h : get? GLockTable w a = some x) : w.cell? (a.add 2) = some (.int .i64 x.replica) := (get?_iff.1 h) _ _ (lk175_1 x)
theorem GLockTable.at_held {w : World} {a : Addr} {x : GLockTable} (h : get? GLockTable w a = some x) : w.cell? (a.add 3) = some (.map x.held) := (get?_iff.1 h) _ _ (lk175_2 x)
@[go_sem] theorem nw175 (w : World) (n : Nat) (x : GLockTable) (hn : n = w.heap.size) : get? GLockTable (w.alloc (.cells (GLockTable.enc x).toArray 175)) ⟨n, 0, none⟩ = some x := by
  subst hn; exact get?_new 175 x
theorem pl175 : ((Tryz.prog.fieldsOf 175).toList.mapM fun f => (Tryz.prog.info? f.type).map fun i => (f.offset, i.size)) = some [(0, 2), (2, 1), (3, 1)] := by kernel_rfl
theorem fs175_0 (x : GLockTable) (v : GConf) (rest : List (Nat × Value)) : Instr.fill (fun i => ([(0, 2), (2, 1), (3, 1)] : List (Nat × Nat))[i]?) x.enc.toArray ((0, (v.val)) :: rest) = Instr.fill (fun i => ([(0, 2), (2, 1), (3, 1)] : List (Nat × Nat))[i]?) ({ x with c := v } : GLockTable).enc.toArray rest := by
  have h := fill_seg [(0, 2), (2, 1), (3, 1)] 0 0 2 rfl (([] : List Value)) (x.c.enc) ([(.int .i64 x.replica)] ++ ([(.map x.held)] ++ (([] : List Value)))) (v.enc) (v.val) rest (by rw [GConf.val_eq]; rfl) (by simp [GConf.enc_len]) (by simp [GConf.enc_len]) (by simp [GConf.enc_len])
  have e1 : x.enc = (([] : List Value)) ++ (x.c.enc ++ ([(.int .i64 x.replica)] ++ ([(.map x.held)] ++ (([] : List Value))))) := by simp only [GLockTable.enc, List.nil_append, List.append_assoc, List.append_nil]
  have e2 : ({ x with c := v } : GLockTable).enc = (([] : List Value)) ++ (v.enc ++ ([(.int .i64 x.replica)] ++ ([(.map x.held)] ++ (([] : List Value))))) := by simp only [GLockTable.enc, List.nil_append, List.append_assoc, List.append_nil]
  rw [e1, e2]; exact h
theorem fs175_1 (x : GLockTable) (v : Int) (rest : List (Nat × Value)) : Instr.fill (fun i => ([(0, 2), (2, 1), (3, 1)] : List (Nat × Nat))[i]?) x.enc.toArray ((1, (.int .i64 v)) :: rest) = Instr.fill (fun i => ([(0, 2), (2, 1), (3, 1)] : List (Nat × Nat))[i]?) ({ x with replica := v } : GLockTable).enc.toArray rest := by
  have h := fill_seg [(0, 2), (2, 1), (3, 1)] 1 2 1 rfl (([] : List Value) ++ (x.c.enc)) ([(.int .i64 x.replica)]) ([(.map x.held)] ++ (([] : List Value))) ([(.int .i64 v)]) (.int .i64 v) rest (rfl) (by simp [GConf.enc_len]) (by simp [GConf.enc_len]) (by simp [GConf.enc_len])
  have e1 : x.enc = (([] : List Value) ++ (x.c.enc)) ++ ([(.int .i64 x.replica)] ++ ([(.map x.held)] ++ (([] : List Value)))) := by simp only [GLockTable.enc, List.nil_append, List.append_assoc, List.append_nil]
  have e2 : ({ x with replica := v } : GLockTable).enc = (([] : List Value) ++ (x.c.enc)) ++ ([(.int .i64 v)] ++ ([(.map x.held)] ++ (([] : List Value)))) := by simp only [GLockTable.enc, List.nil_append, List.append_assoc, List.append_nil]
  rw [e1, e2]; exact h
theorem fs175_2 (x : GLockTable) (v : Option Nat) (rest : List (Nat × Value)) : Instr.fill (fun i => ([(0, 2), (2, 1), (3, 1)] : List (Nat × Nat))[i]?) x.enc.toArray ((2, (.map v)) :: rest) = Instr.fill (fun i => ([(0, 2), (2, 1), (3, 1)] : List (Nat × Nat))[i]?) ({ x with held := v } : GLockTable).enc.toArray rest := by
  have h := fill_seg [(0, 2), (2, 1), (3, 1)] 2 3 1 rfl (([] : List Value) ++ (x.c.enc ++ ([(.int .i64 x.replica)]))) ([(.map x.held)]) (([] : List Value)) ([(.map v)]) (.map v) rest (rfl) (by simp [GConf.enc_len]) (by simp [GConf.enc_len]) (by simp [GConf.enc_len])
  have e1 : x.enc = (([] : List Value) ++ (x.c.enc ++ ([(.int .i64 x.replica)]))) ++ ([(.map x.held)] ++ (([] : List Value))) := by simp only [GLockTable.enc, List.nil_append, List.append_assoc, List.append_nil]
  have e2 : ({ x with held := v } : GLockTable).enc = (([] : List Value) ++ (x.c.enc ++ ([(.int .i64 x.replica)]))) ++ ([(.map v)] ++ (([] : List Value))) := by simp only [GLockTable.enc, List.nil_append, List.append_assoc, List.append_nil]
  rw [e1, e2]; exact h
@[go_sem ↓ high] theorem xd_GLockTable (ρ : Operand → Value) (dst : Option Tmp) (ps : Array (Nat × Operand)) (ty : TypeId) (pos : String) (after : Array Edge) (guard : Option (Nat × Bool)) : execOp ρ { dst, op := .build 175 ps, type := ty, pos, after, guard } = (do pure (.value (← gBuild 175 (ps.map fun (i, x) => (i, ρ x))))) := ex_build ..
@[go_sem ↓ high] theorem bd175_0 (w : World) (v0 : GConf) (v1 : Int) (v2 : Option Nat) : (gBuild 175 #[(0, (v0.val)), (1, (.int .i64 v1)), (2, (.map v2))]).run Tryz.prog w = .ok (GLockTable.val ⟨v0, v1, v2⟩) w := by
  rw [GLockTable.val_eq]
  refine run_gBuild_of uu175 zr175 pl175 ?_ w
  show Instr.fill _ (GLockTable.enc default).toArray [(0, (v0.val)), (1, (.int .i64 v1)), (2, (.map v2))] = _
  rw [fs175_0, fs175_1, fs175_2]; rfl

/-! ### gavel/reveal.Reveal -/
structure GRevealReveal where
  c : GConf
  replica : Int
  m : Option Nat
deriving DecidableEq
instance : Inhabited GRevealReveal := ⟨⟨default, 0, none⟩⟩
def GRevealReveal.enc (x : GRevealReveal) : List Value := x.c.enc ++ ([(.int .i64 x.replica)] ++ ([(.map x.m)]))
theorem GRevealReveal.enc_len (x : GRevealReveal) : x.enc.length = 4 := by simp [GRevealReveal.enc, GConf.enc_len]
theorem GRevealReveal.enc_one (x : GRevealReveal) : ∀ u ∈ x.enc, u.oneCell' = true := by
  intro u hu
  simp only [GRevealReveal.enc, List.mem_append, List.mem_singleton] at hu
  rcases hu with hu | hu | hu
  · exact Enc.one (α := GConf) _ _ hu
  · subst hu; rfl
  · subst hu; rfl
theorem GRevealReveal.enc_inj (x y : GRevealReveal) (h : x.enc = y.enc) : x = y := by
  obtain ⟨a0, a1, a2⟩ := x
  obtain ⟨b0, b1, b2⟩ := y
  simp only [GRevealReveal.enc] at h
  obtain ⟨p0, q0⟩ := List.append_inj h (by simp [GConf.enc_len])
  have e0 := Enc.inj (α := GConf) _ _ p0
  obtain ⟨p1, q1⟩ := List.append_inj q0 (rfl)
  have e1 : a1 = b1 := by have := List.head_eq_of_cons_eq p1; injection this
  have e2 : a2 = b2 := by have := List.head_eq_of_cons_eq q1; injection this
  rw [e0, e1, e2]
instance : Enc GRevealReveal where
  n := 4
  enc := GRevealReveal.enc
  pos := by omega
  len := GRevealReveal.enc_len
  one := GRevealReveal.enc_one
  inj := GRevealReveal.enc_inj
@[go_sem] theorem GRevealReveal.n_eq : Enc.n GRevealReveal = 4 := rfl
@[irreducible] def GRevealReveal.val (x : GRevealReveal) : Value := .agg x.enc.toArray
theorem GRevealReveal.val_eq (x : GRevealReveal) : GRevealReveal.val x = .agg (Enc.enc x).toArray := by unfold GRevealReveal.val; rfl
theorem uu178 : Tryz.prog.underlying 178 = some (.struct (Tryz.prog.fieldsOf 178)) := by kernel_rfl
@[go_sem ↓ high] theorem xb_GRevealReveal (ρ : Operand → Value) (dst : Option Tmp) (x : Operand) (ty : TypeId) (pos : String) (after : Array Edge) (guard : Option (Nat × Bool)) : execOp ρ { dst, op := .box 178 x, type := ty, pos, after, guard } = (do pure (.value (← gBox 178 (ρ x)))) := ex_box ..
section
variable (w : World)
@[go_sem ↓ high] theorem bx_GRevealReveal (x : GRevealReveal) : (gBox 178 (GRevealReveal.val x)).run Tryz.prog w = .ok (.pointer (some ⟨w.heap.size, 0, none⟩)) (w.alloc (.cells (GRevealReveal.enc x).toArray 178)) := by
  rw [GRevealReveal.val_eq]; exact run_gBox _ w
end
theorem lk178_2 (x : GRevealReveal) : x.enc[3]? = some (.map x.m) := by
  simp [GRevealReveal.enc, List.getElem?_append, GConf.enc_len]
theorem zr178 : zeroT Tryz.prog 178 = some (.agg (GRevealReveal.enc default).toArray) := by kernel_rfl
theorem GRevealReveal.at_m {w : World} {a : Addr} {x : GRevealReveal} (h : get? GRevealReveal w a = some x) : w.cell? (a.add 3) = some (.map x.m) := (get?_iff.1 h) _ _ (lk178_2 x)
@[go_sem] theorem nw178 (w : World) (n : Nat) (x : GRevealReveal) (hn : n = w.heap.size) : get? GRevealReveal (w.alloc (.cells (GRevealReveal.enc x).toArray 178)) ⟨n, 0, none⟩ = some x := by
  subst hn; exact get?_new 178 x
theorem pl178 : ((Tryz.prog.fieldsOf 178).toList.mapM fun f => (Tryz.prog.info? f.type).map fun i => (f.offset, i.size)) = some [(0, 2), (2, 1), (3, 1)] := by kernel_rfl
theorem fs178_0 (x : GRevealReveal) (v : GConf) (rest : List (Nat × Value)) : Instr.fill (fun i => ([(0, 2), (2, 1), (3, 1)] : List (Nat × Nat))[i]?) x.enc.toArray ((0, (v.val)) :: rest) = Instr.fill (fun i => ([(0, 2), (2, 1), (3, 1)] : List (Nat × Nat))[i]?) ({ x with c := v } : GRevealReveal).enc.toArray rest := by
  have h := fill_seg [(0, 2), (2, 1), (3, 1)] 0 0 2 rfl (([] : List Value)) (x.c.enc) ([(.int .i64 x.replica)] ++ ([(.map x.m)] ++ (([] : List Value)))) (v.enc) (v.val) rest (by rw [GConf.val_eq]; rfl) (by simp [GConf.enc_len]) (by simp [GConf.enc_len]) (by simp [GConf.enc_len])
  have e1 : x.enc = (([] : List Value)) ++ (x.c.enc ++ ([(.int .i64 x.replica)] ++ ([(.map x.m)] ++ (([] : List Value))))) := by simp only [GRevealReveal.enc, List.nil_append, List.append_assoc, List.append_nil]
  have e2 : ({ x with c := v } : GRevealReveal).enc = (([] : List Value)) ++ (v.enc ++ ([(.int .i64 x.replica)] ++ ([(.map x.m)] ++ (([] : List Value))))) := by simp only [GRevealReveal.enc, List.nil_append, List.append_assoc, List.append_nil]
  rw [e1, e2]; exact h
theorem fs178_1 (x : GRevealReveal) (v : Int) (rest : List (Nat × Value)) : Instr.fill (fun i => ([(0, 2), (2, 1), (3, 1)] : List (Nat × Nat))[i]?) x.enc.toArray ((1, (.int .i64 v)) :: rest) = Instr.fill (fun i => ([(0, 2), (2, 1), (3, 1)] : List (Nat × Nat))[i]?) ({ x with replica := v } : GRevealReveal).enc.toArray rest := by
  have h := fill_seg [(0, 2), (2, 1), (3, 1)] 1 2 1 rfl (([] : List Value) ++ (x.c.enc)) ([(.int .i64 x.replica)]) ([(.map x.m)] ++ (([] : List Value))) ([(.int .i64 v)]) (.int .i64 v) rest (rfl) (by simp [GConf.enc_len]) (by simp [GConf.enc_len]) (by simp [GConf.enc_len])
  have e1 : x.enc = (([] : List Value) ++ (x.c.enc)) ++ ([(.int .i64 x.replica)] ++ ([(.map x.m)] ++ (([] : List Value)))) := by simp only [GRevealReveal.enc, List.nil_append, List.append_assoc, List.append_nil]
  have e2 : ({ x with replica := v } : GRevealReveal).enc = (([] : List Value) ++ (x.c.enc)) ++ ([(.int .i64 v)] ++ ([(.map x.m)] ++ (([] : List Value)))) := by simp only [GRevealReveal.enc, List.nil_append, List.append_assoc, List.append_nil]
  rw [e1, e2]; exact h
theorem fs178_2 (x : GRevealReveal) (v : Option Nat) (rest : List (Nat × Value)) : Instr.fill (fun i => ([(0, 2), (2, 1), (3, 1)] : List (Nat × Nat))[i]?) x.enc.toArray ((2, (.map v)) :: rest) = Instr.fill (fun i => ([(0, 2), (2, 1), (3, 1)] : List (Nat × Nat))[i]?) ({ x with m := v } : GRevealReveal).enc.toArray rest := by
  have h := fill_seg [(0, 2), (2, 1), (3, 1)] 2 3 1 rfl (([] : List Value) ++ (x.c.enc ++ ([(.int .i64 x.replica)]))) ([(.map x.m)]) (([] : List Value)) ([(.map v)]) (.map v) rest (rfl) (by simp [GConf.enc_len]) (by simp [GConf.enc_len]) (by simp [GConf.enc_len])
  have e1 : x.enc = (([] : List Value) ++ (x.c.enc ++ ([(.int .i64 x.replica)]))) ++ ([(.map x.m)] ++ (([] : List Value))) := by simp only [GRevealReveal.enc, List.nil_append, List.append_assoc, List.append_nil]
  have e2 : ({ x with m := v } : GRevealReveal).enc = (([] : List Value) ++ (x.c.enc ++ ([(.int .i64 x.replica)]))) ++ ([(.map v)] ++ (([] : List Value))) := by simp only [GRevealReveal.enc, List.nil_append, List.append_assoc, List.append_nil]
  rw [e1, e2]; exact h
@[go_sem ↓ high] theorem xd_GRevealReveal (ρ : Operand → Value) (dst : Option Tmp) (ps : Array (Nat × Operand)) (ty : TypeId) (pos : String) (after : Array Edge) (guard : Option (Nat × Bool)) : execOp ρ { dst, op := .build 178 ps, type := ty, pos, after, guard } = (do pure (.value (← gBuild 178 (ps.map fun (i, x) => (i, ρ x))))) := ex_build ..
@[go_sem ↓ high] theorem bd178_0 (w : World) (v0 : GConf) (v1 : Int) (v2 : Option Nat) : (gBuild 178 #[(0, (v0.val)), (1, (.int .i64 v1)), (2, (.map v2))]).run Tryz.prog w = .ok (GRevealReveal.val ⟨v0, v1, v2⟩) w := by
  rw [GRevealReveal.val_eq]
  refine run_gBuild_of uu178 zr178 pl178 ?_ w
  show Instr.fill _ (GRevealReveal.enc default).toArray [(0, (v0.val)), (1, (.int .i64 v1)), (2, (.map v2))] = _
  rw [fs178_0, fs178_1, fs178_2]; rfl

/-! ### gavel/reveal.place -/
structure GRevealPlace where
  e : GEntry
  since : Int
  opening : GOpening
  acked : Bool
  denied : Bool
  denies : Option Nat
deriving DecidableEq
instance : Inhabited GRevealPlace := ⟨⟨default, 0, default, false, false, none⟩⟩
def GRevealPlace.enc (x : GRevealPlace) : List Value := x.e.enc ++ ([(.int .u64 x.since)] ++ (x.opening.enc ++ ([(.bool x.acked)] ++ ([(.bool x.denied)] ++ ([(.map x.denies)])))))
theorem GRevealPlace.enc_len (x : GRevealPlace) : x.enc.length = 73 := by simp [GRevealPlace.enc, GEntry.enc_len, GOpening.enc_len]
theorem GRevealPlace.enc_one (x : GRevealPlace) : ∀ u ∈ x.enc, u.oneCell' = true := by
  intro u hu
  simp only [GRevealPlace.enc, List.mem_append, List.mem_singleton] at hu
  rcases hu with hu | hu | hu | hu | hu | hu
  · exact Enc.one (α := GEntry) _ _ hu
  · subst hu; rfl
  · exact Enc.one (α := GOpening) _ _ hu
  · subst hu; rfl
  · subst hu; rfl
  · subst hu; rfl
theorem GRevealPlace.enc_inj (x y : GRevealPlace) (h : x.enc = y.enc) : x = y := by
  obtain ⟨a0, a1, a2, a3, a4, a5⟩ := x
  obtain ⟨b0, b1, b2, b3, b4, b5⟩ := y
  simp only [GRevealPlace.enc] at h
  obtain ⟨p0, q0⟩ := List.append_inj h (by simp [GEntry.enc_len])
  have e0 := Enc.inj (α := GEntry) _ _ p0
  obtain ⟨p1, q1⟩ := List.append_inj q0 (rfl)
  have e1 : a1 = b1 := by have := List.head_eq_of_cons_eq p1; injection this
  obtain ⟨p2, q2⟩ := List.append_inj q1 (by simp [GOpening.enc_len])
  have e2 := Enc.inj (α := GOpening) _ _ p2
  obtain ⟨p3, q3⟩ := List.append_inj q2 (rfl)
  have e3 : a3 = b3 := by have := List.head_eq_of_cons_eq p3; injection this
  obtain ⟨p4, q4⟩ := List.append_inj q3 (rfl)
  have e4 : a4 = b4 := by have := List.head_eq_of_cons_eq p4; injection this
  have e5 : a5 = b5 := by have := List.head_eq_of_cons_eq q4; injection this
  rw [e0, e1, e2, e3, e4, e5]
instance : Enc GRevealPlace where
  n := 73
  enc := GRevealPlace.enc
  pos := by omega
  len := GRevealPlace.enc_len
  one := GRevealPlace.enc_one
  inj := GRevealPlace.enc_inj
@[go_sem] theorem GRevealPlace.n_eq : Enc.n GRevealPlace = 73 := rfl
@[irreducible] def GRevealPlace.val (x : GRevealPlace) : Value := .agg x.enc.toArray
theorem GRevealPlace.val_eq (x : GRevealPlace) : GRevealPlace.val x = .agg (Enc.enc x).toArray := by unfold GRevealPlace.val; rfl
section
variable (w : World)
end
/-! ### []api.Deny -/
instance : KEnc GBookSigned := ⟨GBookSigned.val, fun a b h => by rw [GBookSigned.val_eq, GBookSigned.val_eq] at h; injection h with h; exact Enc.inj _ _ (by simpa using congrArg Array.toList h)⟩
theorem kl109 : KeyLaws Tryz.prog 109 GBookSigned where
  chk := fun e k w => by
    show (Instr.checkKey e 10000 109 (GBookSigned.val k)).run Tryz.prog w = _
    rw [GBookSigned.val_eq]
    rw [run_checkKey_struct e 9999 _ w uu109 nb109, fl109]
    show (chkFs e 9999 k.enc.toArray _).run Tryz.prog w = _
    simp only [chkFs, Sem.run_bind, pt109_0, pt109_1, Result.andThen_ok, run_checkKey_one e 9998 uk3, run_checkKey_str e 9998 uk9, Sem.run_pure]
  fnd := fnd_struct (fun k k' w => eq_GBookSigned w 9998 k k') uu109 (fun k k' => by show Instr.sameNow _ (GBookSigned.val k) (GBookSigned.val k') = none; rw [GBookSigned.val_eq, GBookSigned.val_eq]; rfl)
  same := fun k => by
    show Instr.sameBits 10000 (GBookSigned.val k) (GBookSigned.val k) = true
    rw [GBookSigned.val_eq]
    exact sameBits_cells 9999 _ (Enc.one k) (fun u hu => by
      have hu' : u ∈ k.enc := hu
      unfold GBookSigned.enc at hu'
      simp only [List.mem_append, List.mem_singleton] at hu'
      rcases hu' with hu' | hu'
      · subst hu'; exact sameBits_int _ _ _
      · subst hu'; exact sameBits_str _ _)

/-! ### map[book.signed]int -/
theorem um110 : Tryz.prog.underlying 110 = some (.map 109 3) := by kernel_rfl
theorem zv110_3 : zeroT Tryz.prog 3 = some (VEnc.vv (0 : Int)) := by kernel_rfl
@[go_sem ↓ high] theorem xk_110 (ρ : Operand → Value) (dst : Option Tmp) (x y : Operand) (ok : Bool) (ty : TypeId) (pos : String) (after : Array Edge) (guard : Option (Nat × Bool)) : execOp ρ { dst, op := .lookup 110 x y ok, type := ty, pos, after, guard } = (do pure (.value (← gLookup 110 (ρ x) (ρ y) ok))) := ex_lookup ..
@[go_sem ↓ high] theorem xu_110 (ρ : Operand → Value) (dst : Option Tmp) (x y z : Operand) (ty : TypeId) (pos : String) (after : Array Edge) (guard : Option (Nat × Bool)) : execOp ρ { dst, op := .mapUpdate 110 x y z, type := ty, pos, after, guard } = (do gMapUpdate 110 (ρ x) (ρ y) (ρ z); pure .skip) := ex_mapUpdate ..
@[go_sem ↓ high] theorem lk_110 (w : World) (r : Nat) (k : GBookSigned) : (gLookup 110 (.map (some r)) (GBookSigned.val k) false).run Tryz.prog w = ofOpt ((mapAt GBookSigned Int w r).map fun m => (.int .i64 ((mget m k).getD 0))) w (noLookup Tryz.prog 110 (.map (some r)) (GBookSigned.val k) false w) :=
  run_gLookup kl109 um110 zv110_3 w r k
@[go_sem ↓ high] theorem mu_110 (w : World) (r : Nat) (k : GBookSigned) (v : Int) : (gMapUpdate 110 (.map (some r)) (GBookSigned.val k) (.int .i64 v)).run Tryz.prog w = okU ((mapAt GBookSigned Int w r).isSome) (mput Tryz.prog 110 w r k v) (noUpdate Tryz.prog 110 (.map (some r)) (GBookSigned.val k) (.int .i64 v) w) :=
  run_gMapUpdate kl109 um110 w r k v
instance : VEnc GStamp := ⟨GStamp.val, fun a b h => by rw [GStamp.val_eq, GStamp.val_eq] at h; injection h with h; exact Enc.inj _ _ (by simpa using congrArg Array.toList h)⟩

/-! ### map[api.Name]api.Stamp -/
theorem um156 : Tryz.prog.underlying 156 = some (.map 33 41) := by kernel_rfl
theorem zv156_41 : zeroT Tryz.prog 41 = some (VEnc.vv (default : GStamp)) := by kernel_rfl
@[go_sem ↓ high] theorem xk_156 (ρ : Operand → Value) (dst : Option Tmp) (x y : Operand) (ok : Bool) (ty : TypeId) (pos : String) (after : Array Edge) (guard : Option (Nat × Bool)) : execOp ρ { dst, op := .lookup 156 x y ok, type := ty, pos, after, guard } = (do pure (.value (← gLookup 156 (ρ x) (ρ y) ok))) := ex_lookup ..
@[go_sem ↓ high] theorem lo_156 (w : World) (r : Nat) (k : GName) : (gLookup 156 (.map (some r)) (GName.val k) true).run Tryz.prog w = ofOpt ((mapAt GName GStamp w r).map fun m => .tuple #[(GStamp.val ((mget m k).getD default)), .bool (mget m k).isSome]) w (noLookup Tryz.prog 156 (.map (some r)) (GName.val k) true w) :=
  run_gLookup_ok kl33 um156 zv156_41 w r k
instance : VEnc GCert := ⟨GCert.val, fun a b h => by rw [GCert.val_eq, GCert.val_eq] at h; injection h with h; exact Enc.inj _ _ (by simpa using congrArg Array.toList h)⟩

/-! ### map[api.Name]api.Cert -/
theorem um173 : Tryz.prog.underlying 173 = some (.map 33 44) := by kernel_rfl
theorem kl3 : KeyLaws Tryz.prog 3 Int := keyLaws_int uk3
instance : VEnc GRevealPlace := ⟨GRevealPlace.val, fun a b h => by rw [GRevealPlace.val_eq, GRevealPlace.val_eq] at h; injection h with h; exact Enc.inj _ _ (by simpa using congrArg Array.toList h)⟩

/-! ### map[int]reveal.place -/
theorem um176 : Tryz.prog.underlying 176 = some (.map 3 208) := by kernel_rfl
end Go.Proofs.YtfhhcgldikmejaaGreatDoor
