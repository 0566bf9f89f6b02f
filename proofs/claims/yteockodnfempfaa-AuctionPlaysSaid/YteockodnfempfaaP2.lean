/- Where own lists lie. Conditions: those named in each theorem. -/
import Derived.Test.YteockodnfempfaaRows
import Derived.Test.YteockodnfempfaaP1
import Derived.ProofKit
import Derived.DataShut
import Derived.OpenShut
import Derived.BigRegion
import Derived.Deep.RegionWith
/- The struct types of this seat as Lean types, with the runs of single operations over them. Conditions: those named in each theorem. -/
namespace Go.Proofs.Yteockodnfempfaa
open Go Go.RowKit Go.Gv
set_option linter.unusedSimpArgs false

theorem na3 : aggT Try.prog 3 = false := by kernel_rfl
theorem us3 : (Try.prog.underlying 3).isSome = true := by kernel_rfl
theorem uk3 : Try.prog.underlying 3 = some (.int .i64) := by kernel_rfl
theorem na5 : aggT Try.prog 5 = false := by kernel_rfl
theorem us5 : (Try.prog.underlying 5).isSome = true := by kernel_rfl
theorem uk5 : Try.prog.underlying 5 = some (.int .u8) := by kernel_rfl
theorem na28 : aggT Try.prog 28 = false := by kernel_rfl
theorem us28 : (Try.prog.underlying 28).isSome = true := by kernel_rfl
theorem uk28 : Try.prog.underlying 28 = some (.int .u64) := by kernel_rfl
@[go_sem ↓ high] theorem xl_GHash (ρ : Operand → Value) (dst : Option Tmp) (x : Operand) (ty : TypeId) (pos : String) (after : Array Edge) (guard : Option (Nat × Bool)) : execOp ρ { dst, op := .load 27 x, type := ty, pos, after, guard } = (do pure (.value (← gLoad 27 (ρ x)))) := ex_load ..
@[go_sem ↓ high] theorem xs_GHash (ρ : Operand → Value) (dst : Option Tmp) (x y : Operand) (ty : TypeId) (pos : String) (after : Array Edge) (guard : Option (Nat × Bool)) : execOp ρ { dst, op := .store 27 x y, type := ty, pos, after, guard } = (do gStore 27 (ρ x) (ρ y); pure .skip) := ex_store ..
@[go_sem ↓ high] theorem xb_GHash (ρ : Operand → Value) (dst : Option Tmp) (x : Operand) (ty : TypeId) (pos : String) (after : Array Edge) (guard : Option (Nat × Bool)) : execOp ρ { dst, op := .box 27 x, type := ty, pos, after, guard } = (do pure (.value (← gBox 27 (ρ x)))) := ex_box ..
@[go_sem ↓ high] theorem xa_GHash (ρ : Operand → Value) (dst : Option Tmp) (ty : TypeId) (pos : String) (after : Array Edge) (guard : Option (Nat × Bool)) : execOp ρ { dst, op := .alloc 27, type := ty, pos, after, guard } = (do pure (.value (← gAlloc 27))) := ex_alloc ..
theorem ag27 : aggT Try.prog 27 = true := by kernel_rfl
theorem sz27 : sizeT Try.prog 27 = 32 := by kernel_rfl
section
variable (w : World)
@[go_sem ↓ high] theorem ld_GHash (a : Addr) : (gLoad 27 (.pointer (some a))).run Try.prog w = ofOpt ((get? GHash w a).map GHash.val) w (noLoad Try.prog 27 a w) := by
  unfold gLoad; exact run_loadAt_opt ag27 sz27 GHash.val GHash.val_eq
@[go_sem ↓ high] theorem st_GHash (a : Addr) (x : GHash) : (gStore 27 (.pointer (some a)) (GHash.val x)).run Try.prog w = okU' ((get? GHash w a).isSome && blkFree w a.block) (World.putCells w a (GHash.enc x)) (noStore Try.prog 27 (.pointer (some a)) (GHash.val x) w) := run_gStore_any sz27 GHash.val GHash.val_eq w a x
@[go_sem ↓ high] theorem bx_GHash (x : GHash) : (gBox 27 (GHash.val x)).run Try.prog w = .ok (.pointer (some ⟨w.heap.size, 0, none⟩)) (w.alloc (.cells (GHash.enc x).toArray 27)) := by
  rw [GHash.val_eq]; exact run_gBox _ w
end
theorem uu27 : Try.prog.underlying 27 = some (.array 32 5) := by kernel_rfl
theorem sz5 : sizeT Try.prog 5 = 1 := by kernel_rfl
theorem eq_GHash (w : World) (d : Nat) (x y : GHash) : (Op.equalIn (d + 2) 27 (GHash.val x) (GHash.val y)).run Try.prog w = .ok (decide (x = y)) w := eq_hash uu27 sz5 na5 uk5 w d x y
@[go_sem ↓ high] theorem xq_GHash (ρ : Operand → Value) (dst : Option Tmp) (x y : Operand) (ty yt : TypeId) (pos : String) (after : Array Edge) (guard : Option (Nat × Bool)) : execOp ρ { dst, op := .binOp .eql 27 x y yt, type := ty, pos, after, guard } = (do pure (.value (← gBin .eql 27 x y (ρ x) (ρ y)))) := ex_eql ..
@[go_sem ↓ high] theorem xn_GHash (ρ : Operand → Value) (dst : Option Tmp) (x y : Operand) (ty yt : TypeId) (pos : String) (after : Array Edge) (guard : Option (Nat × Bool)) : execOp ρ { dst, op := .binOp .neq 27 x y yt, type := ty, pos, after, guard } = (do pure (.value (← gBin .neq 27 x y (ρ x) (ρ y)))) := ex_neq ..
theorem eg_GHash : Try.prog.eqGuardType Try.prog.depth 27 = false := by kernel_rfl
@[go_sem ↓ high] theorem eql_GHash (w : World) (ox oy : Operand) (x y : GHash) : (gBin .eql 27 ox oy (GHash.val x) (GHash.val y)).run Try.prog w = .ok (.bool (decide (x = y))) w := by
  have h2 := eq_GHash w 9998 x y
  rw [GHash.val_eq, GHash.val_eq] at h2 ⊢
  have h := run_eqGuard_agg (P := Try.prog) w .eql 27 ox oy (Enc.enc x).toArray (Enc.enc y).toArray eg_GHash
  unfold gBin
  simp only [Sem.run_bind, h, Result.andThen_ok, run_eql_struct, h2]
@[go_sem ↓ high] theorem neq_GHash (w : World) (ox oy : Operand) (x y : GHash) : (gBin .neq 27 ox oy (GHash.val x) (GHash.val y)).run Try.prog w = .ok (.bool (!decide (x = y))) w := by
  have h2 := eq_GHash w 9998 x y
  rw [GHash.val_eq, GHash.val_eq] at h2 ⊢
  have h := run_eqGuard_agg (P := Try.prog) w .neq 27 ox oy (Enc.enc x).toArray (Enc.enc y).toArray eg_GHash
  unfold gBin
  simp only [Sem.run_bind, h, Result.andThen_ok, run_neq_struct, h2]

/-! ### gavel/api.Name -/
structure GName where
  client : Int
  seq : Int
deriving DecidableEq
instance : Inhabited GName := ⟨⟨0, 0⟩⟩
def GName.enc (x : GName) : List Value := [(.int .i64 x.client)] ++ ([(.int .i64 x.seq)])
theorem GName.enc_len (x : GName) : x.enc.length = 2 := by simp [GName.enc]
theorem GName.enc_one (x : GName) : ∀ u ∈ x.enc, u.oneCell' = true := by
  intro u hu
  simp only [GName.enc, List.mem_append, List.mem_singleton] at hu
  rcases hu with hu | hu
  · subst hu; rfl
  · subst hu; rfl
theorem GName.enc_inj (x y : GName) (h : x.enc = y.enc) : x = y := by
  obtain ⟨a0, a1⟩ := x
  obtain ⟨b0, b1⟩ := y
  simp only [GName.enc] at h
  obtain ⟨p0, q0⟩ := List.append_inj h (rfl)
  have e0 : a0 = b0 := by have := List.head_eq_of_cons_eq p0; injection this
  have e1 : a1 = b1 := by have := List.head_eq_of_cons_eq q0; injection this
  rw [e0, e1]
instance : Enc GName where
  n := 2
  enc := GName.enc
  pos := by omega
  len := GName.enc_len
  one := GName.enc_one
  inj := GName.enc_inj
@[go_sem] theorem GName.n_eq : Enc.n GName = 2 := rfl
@[irreducible] def GName.val (x : GName) : Value := .agg x.enc.toArray
theorem GName.val_eq (x : GName) : GName.val x = .agg (Enc.enc x).toArray := by unfold GName.val; rfl
theorem GName.ext_all (x y : GName) : x = y ↔ x.client = y.client ∧ x.seq = y.seq := by
  constructor
  · intro h; cases h; simp
  · intro h; cases x; cases y; simp_all
theorem uu25 : Try.prog.underlying 25 = some (.struct (Try.prog.fieldsOf 25)) := by kernel_rfl
theorem st25 : Try.prog.stoodInHeld 25 = false := by kernel_rfl
theorem fl25 : fieldTO Try.prog 25 = [(3, 0), (3, 1)] := by kernel_rfl
theorem nb25 : noBlank Try.prog 25 = true := by kernel_rfl
@[go_sem ↓ high] theorem xl_GName (ρ : Operand → Value) (dst : Option Tmp) (x : Operand) (ty : TypeId) (pos : String) (after : Array Edge) (guard : Option (Nat × Bool)) : execOp ρ { dst, op := .load 25 x, type := ty, pos, after, guard } = (do pure (.value (← gLoad 25 (ρ x)))) := ex_load ..
@[go_sem ↓ high] theorem xs_GName (ρ : Operand → Value) (dst : Option Tmp) (x y : Operand) (ty : TypeId) (pos : String) (after : Array Edge) (guard : Option (Nat × Bool)) : execOp ρ { dst, op := .store 25 x y, type := ty, pos, after, guard } = (do gStore 25 (ρ x) (ρ y); pure .skip) := ex_store ..
@[go_sem ↓ high] theorem xb_GName (ρ : Operand → Value) (dst : Option Tmp) (x : Operand) (ty : TypeId) (pos : String) (after : Array Edge) (guard : Option (Nat × Bool)) : execOp ρ { dst, op := .box 25 x, type := ty, pos, after, guard } = (do pure (.value (← gBox 25 (ρ x)))) := ex_box ..
@[go_sem ↓ high] theorem xa_GName (ρ : Operand → Value) (dst : Option Tmp) (ty : TypeId) (pos : String) (after : Array Edge) (guard : Option (Nat × Bool)) : execOp ρ { dst, op := .alloc 25, type := ty, pos, after, guard } = (do pure (.value (← gAlloc 25))) := ex_alloc ..
theorem ag25 : aggT Try.prog 25 = true := by kernel_rfl
theorem sz25 : sizeT Try.prog 25 = 2 := by kernel_rfl
section
variable (w : World)
@[go_sem ↓ high] theorem ld_GName (a : Addr) : (gLoad 25 (.pointer (some a))).run Try.prog w = ofOpt ((get? GName w a).map GName.val) w (noLoad Try.prog 25 a w) := by
  unfold gLoad; exact run_loadAt_opt ag25 sz25 GName.val GName.val_eq
@[go_sem ↓ high] theorem st_GName (a : Addr) (x : GName) : (gStore 25 (.pointer (some a)) (GName.val x)).run Try.prog w = okU' ((get? GName w a).isSome && blkFree w a.block) (World.putCells w a (GName.enc x)) (noStore Try.prog 25 (.pointer (some a)) (GName.val x) w) := run_gStore_any sz25 GName.val GName.val_eq w a x
@[go_sem ↓ high] theorem bx_GName (x : GName) : (gBox 25 (GName.val x)).run Try.prog w = .ok (.pointer (some ⟨w.heap.size, 0, none⟩)) (w.alloc (.cells (GName.enc x).toArray 25)) := by
  rw [GName.val_eq]; exact run_gBox _ w
end
theorem lk25_0 (x : GName) : x.enc[0]? = some (.int .i64 x.client) := by
  simp [GName.enc, List.getElem?_append]
theorem pt25_0 (w : World) (x : GName) : (part 3 x.enc.toArray 0).run Try.prog w = .ok (.int .i64 x.client) w := run_part_one na3 us3 (lk25_0 x)
@[go_sem ↓ high] theorem fd25_0 (w : World) (x : GName) : (gField 25 (GName.val x) 0).run Try.prog w = .ok (.int .i64 x.client) w := by
  rw [GName.val_eq]
  exact run_gField w uu25 (by rw [fl25]; rfl) (pt25_0 w x)
theorem lk25_1 (x : GName) : x.enc[1]? = some (.int .i64 x.seq) := by
  simp [GName.enc, List.getElem?_append]
theorem pt25_1 (w : World) (x : GName) : (part 3 x.enc.toArray 1).run Try.prog w = .ok (.int .i64 x.seq) w := run_part_one na3 us3 (lk25_1 x)
@[go_sem ↓ high] theorem fd25_1 (w : World) (x : GName) : (gField 25 (GName.val x) 1).run Try.prog w = .ok (.int .i64 x.seq) w := by
  rw [GName.val_eq]
  exact run_gField w uu25 (by rw [fl25]; rfl) (pt25_1 w x)
@[go_sem ↓ high] theorem xf_GName (ρ : Operand → Value) (dst : Option Tmp) (x : Operand) (i : Nat) (ty : TypeId) (pos : String) (after : Array Edge) (guard : Option (Nat × Bool)) : execOp ρ { dst, op := .field 25 x i, type := ty, pos, after, guard } = (do pure (.value (← gField 25 (ρ x) i))) := ex_field ..
theorem zr25 : zeroT Try.prog 25 = some (.agg (GName.enc default).toArray) := by kernel_rfl
@[go_sem ↓ high] theorem al_GName (w : World) : (gAlloc 25).run Try.prog w = .ok (.pointer (some ⟨w.heap.size, 0, none⟩)) (w.alloc (.cells (GName.enc default).toArray 25)) := run_zero_alloc zr25 w
@[go_sem] theorem pc_GName (w : World) (n : Nat) (x z : GName) (hn : n = w.heap.size) : World.putCells (w.alloc (.cells (GName.enc z).toArray 25)) ⟨n, 0, none⟩ (GName.enc x) = w.alloc (.cells (GName.enc x).toArray 25) := putCells_top x z hn
theorem GName.at_client {w : World} {a : Addr} {x : GName} (h : get? GName w a = some x) : w.cell? (a.add 0) = some (.int .i64 x.client) := (get?_iff.1 h) _ _ (lk25_0 x)
theorem GName.at_seq {w : World} {a : Addr} {x : GName} (h : get? GName w a = some x) : w.cell? (a.add 1) = some (.int .i64 x.seq) := (get?_iff.1 h) _ _ (lk25_1 x)
@[go_sem] theorem nl25_0 (x : GName) : x.enc[0]? = some (.int .i64 x.client) := by
  have h := (GName.at_client (get?_new (w := (default : World)) 25 x))
  simp only [Addr.add_lit, Nat.zero_add, Nat.reduceAdd, World.cell?_alloc_new, List.getElem?_toArray] at h
  exact h
@[go_sem] theorem nl25_1 (x : GName) : x.enc[1]? = some (.int .i64 x.seq) := by
  have h := (GName.at_seq (get?_new (w := (default : World)) 25 x))
  simp only [Addr.add_lit, Nat.zero_add, Nat.reduceAdd, World.cell?_alloc_new, List.getElem?_toArray] at h
  exact h
@[go_sem] theorem nw25 (w : World) (n : Nat) (x : GName) (hn : n = w.heap.size) : get? GName (w.alloc (.cells (GName.enc x).toArray 25)) ⟨n, 0, none⟩ = some x := by
  subst hn; exact get?_new 25 x
theorem pl25 : ((Try.prog.fieldsOf 25).toList.mapM fun f => (Try.prog.info? f.type).map fun i => (f.offset, i.size)) = some [(0, 1), (1, 1)] := by kernel_rfl
theorem fs25_0 (x : GName) (v : Int) (rest : List (Nat × Value)) : Instr.fill (fun i => ([(0, 1), (1, 1)] : List (Nat × Nat))[i]?) x.enc.toArray ((0, (.int .i64 v)) :: rest) = Instr.fill (fun i => ([(0, 1), (1, 1)] : List (Nat × Nat))[i]?) ({ x with client := v } : GName).enc.toArray rest := by
  have h := fill_seg [(0, 1), (1, 1)] 0 0 1 rfl (([] : List Value)) ([(.int .i64 x.client)]) ([(.int .i64 x.seq)] ++ (([] : List Value))) ([(.int .i64 v)]) (.int .i64 v) rest (rfl) (by simp) (by simp) (by simp)
  have e1 : x.enc = (([] : List Value)) ++ ([(.int .i64 x.client)] ++ ([(.int .i64 x.seq)] ++ (([] : List Value)))) := by simp [GName.enc]
  have e2 : ({ x with client := v } : GName).enc = (([] : List Value)) ++ ([(.int .i64 v)] ++ ([(.int .i64 x.seq)] ++ (([] : List Value)))) := by simp [GName.enc]
  rw [e1, e2]; exact h
theorem fs25_1 (x : GName) (v : Int) (rest : List (Nat × Value)) : Instr.fill (fun i => ([(0, 1), (1, 1)] : List (Nat × Nat))[i]?) x.enc.toArray ((1, (.int .i64 v)) :: rest) = Instr.fill (fun i => ([(0, 1), (1, 1)] : List (Nat × Nat))[i]?) ({ x with seq := v } : GName).enc.toArray rest := by
  have h := fill_seg [(0, 1), (1, 1)] 1 1 1 rfl (([] : List Value) ++ ([(.int .i64 x.client)])) ([(.int .i64 x.seq)]) (([] : List Value)) ([(.int .i64 v)]) (.int .i64 v) rest (rfl) (by simp) (by simp) (by simp)
  have e1 : x.enc = (([] : List Value) ++ ([(.int .i64 x.client)])) ++ ([(.int .i64 x.seq)] ++ (([] : List Value))) := by simp [GName.enc]
  have e2 : ({ x with seq := v } : GName).enc = (([] : List Value) ++ ([(.int .i64 x.client)])) ++ ([(.int .i64 v)] ++ (([] : List Value))) := by simp [GName.enc]
  rw [e1, e2]; exact h
@[go_sem ↓ high] theorem xd_GName (ρ : Operand → Value) (dst : Option Tmp) (ps : Array (Nat × Operand)) (ty : TypeId) (pos : String) (after : Array Edge) (guard : Option (Nat × Bool)) : execOp ρ { dst, op := .build 25 ps, type := ty, pos, after, guard } = (do pure (.value (← gBuild 25 (ps.map fun (i, x) => (i, ρ x))))) := ex_build ..
@[go_sem ↓ high] theorem bd25_0 (w : World) (v0 : Int) (v1 : Int) : (gBuild 25 #[(0, (.int .i64 v0)), (1, (.int .i64 v1))]).run Try.prog w = .ok (GName.val ⟨v0, v1⟩) w := by
  rw [GName.val_eq]
  refine run_gBuild_of uu25 zr25 pl25 ?_ w
  show Instr.fill _ (GName.enc default).toArray [(0, (.int .i64 v0)), (1, (.int .i64 v1))] = _
  rw [fs25_0, fs25_1]; rfl
theorem eq_GName (w : World) (d : Nat) (x y : GName) : (Op.equalIn (d + 2) 25 (GName.val x) (GName.val y)).run Try.prog w = .ok (decide (x = y)) w := by
  have q0 : ∀ a b, (Op.equalIn (d + 1) 3 (.int .i64 a) (.int .i64 b)).run Try.prog w = .ok (decide (a = b)) w := fun a b => by rw [run_equalIn_int w (d + 0) 3 .i64 .i64 a b uk3]; congr 1
  have q1 : ∀ a b, (Op.equalIn (d + 1) 3 (.int .i64 a) (.int .i64 b)).run Try.prog w = .ok (decide (a = b)) w := fun a b => by rw [run_equalIn_int w (d + 0) 3 .i64 .i64 a b uk3]; congr 1
  have h := run_equalIn_fields (d + 1) x.enc.toArray y.enc.toArray w uu25 st25 nb25
  rw [fl25] at h
  unfold GName.val
  refine h.trans ?_
  clear h
  simp only [eqFs, Sem.run_bind, pt25_0, pt25_1, q0, q1, Result.andThen_ok, Sem.run_ite, Sem.run_pure]
  have he : decide (x = y) = (decide (x.client = y.client) && (decide (x.seq = y.seq))) := by
    rw [Bool.eq_iff_iff]; simp only [Bool.and_eq_true, decide_eq_true_eq]; exact GName.ext_all x y
  rw [he]
  generalize decide (x.client = y.client) = c0; generalize decide (x.seq = y.seq) = c1
  cases c0 <;> cases c1 <;> simp
@[go_sem ↓ high] theorem xq_GName (ρ : Operand → Value) (dst : Option Tmp) (x y : Operand) (ty yt : TypeId) (pos : String) (after : Array Edge) (guard : Option (Nat × Bool)) : execOp ρ { dst, op := .binOp .eql 25 x y yt, type := ty, pos, after, guard } = (do pure (.value (← gBin .eql 25 x y (ρ x) (ρ y)))) := ex_eql ..
@[go_sem ↓ high] theorem xn_GName (ρ : Operand → Value) (dst : Option Tmp) (x y : Operand) (ty yt : TypeId) (pos : String) (after : Array Edge) (guard : Option (Nat × Bool)) : execOp ρ { dst, op := .binOp .neq 25 x y yt, type := ty, pos, after, guard } = (do pure (.value (← gBin .neq 25 x y (ρ x) (ρ y)))) := ex_neq ..
theorem eg_GName : Try.prog.eqGuardType Try.prog.depth 25 = false := by kernel_rfl
@[go_sem ↓ high] theorem eql_GName (w : World) (ox oy : Operand) (x y : GName) : (gBin .eql 25 ox oy (GName.val x) (GName.val y)).run Try.prog w = .ok (.bool (decide (x = y))) w := by
  have h2 := eq_GName w 9998 x y
  rw [GName.val_eq, GName.val_eq] at h2 ⊢
  have h := run_eqGuard_agg (P := Try.prog) w .eql 25 ox oy (Enc.enc x).toArray (Enc.enc y).toArray eg_GName
  unfold gBin
  simp only [Sem.run_bind, h, Result.andThen_ok, run_eql_struct, h2]
@[go_sem ↓ high] theorem neq_GName (w : World) (ox oy : Operand) (x y : GName) : (gBin .neq 25 ox oy (GName.val x) (GName.val y)).run Try.prog w = .ok (.bool (!decide (x = y))) w := by
  have h2 := eq_GName w 9998 x y
  rw [GName.val_eq, GName.val_eq] at h2 ⊢
  have h := run_eqGuard_agg (P := Try.prog) w .neq 25 ox oy (Enc.enc x).toArray (Enc.enc y).toArray eg_GName
  unfold gBin
  simp only [Sem.run_bind, h, Result.andThen_ok, run_neq_struct, h2]

/-! ### gavel/api.Entry -/
structure GEntry where
  name : GName
  hash : GHash
  time : Int
deriving DecidableEq
instance : Inhabited GEntry := ⟨⟨default, default, 0⟩⟩
def GEntry.enc (x : GEntry) : List Value := x.name.enc ++ (x.hash.enc ++ ([(.int .u64 x.time)]))
theorem GEntry.enc_len (x : GEntry) : x.enc.length = 35 := by simp [GEntry.enc, GHash.enc_len, GName.enc_len]
theorem GEntry.enc_one (x : GEntry) : ∀ u ∈ x.enc, u.oneCell' = true := by
  intro u hu
  simp only [GEntry.enc, List.mem_append, List.mem_singleton] at hu
  rcases hu with hu | hu | hu
  · exact Enc.one (α := GName) _ _ hu
  · exact Enc.one (α := GHash) _ _ hu
  · subst hu; rfl
theorem GEntry.enc_inj (x y : GEntry) (h : x.enc = y.enc) : x = y := by
  obtain ⟨a0, a1, a2⟩ := x
  obtain ⟨b0, b1, b2⟩ := y
  simp only [GEntry.enc] at h
  obtain ⟨p0, q0⟩ := List.append_inj h (by simp [GName.enc_len])
  have e0 := Enc.inj (α := GName) _ _ p0
  obtain ⟨p1, q1⟩ := List.append_inj q0 (by simp [GHash.enc_len])
  have e1 := Enc.inj (α := GHash) _ _ p1
  have e2 : a2 = b2 := by have := List.head_eq_of_cons_eq q1; injection this
  rw [e0, e1, e2]
instance : Enc GEntry where
  n := 35
  enc := GEntry.enc
  pos := by omega
  len := GEntry.enc_len
  one := GEntry.enc_one
  inj := GEntry.enc_inj
@[go_sem] theorem GEntry.n_eq : Enc.n GEntry = 35 := rfl
@[irreducible] def GEntry.val (x : GEntry) : Value := .agg x.enc.toArray
theorem GEntry.val_eq (x : GEntry) : GEntry.val x = .agg (Enc.enc x).toArray := by unfold GEntry.val; rfl
theorem GEntry.ext_all (x y : GEntry) : x = y ↔ x.name = y.name ∧ x.hash = y.hash ∧ x.time = y.time := by
  constructor
  · intro h; cases h; simp
  · intro h; cases x; cases y; simp_all
theorem uu30 : Try.prog.underlying 30 = some (.struct (Try.prog.fieldsOf 30)) := by kernel_rfl
theorem st30 : Try.prog.stoodInHeld 30 = false := by kernel_rfl
theorem fl30 : fieldTO Try.prog 30 = [(25, 0), (27, 2), (28, 34)] := by kernel_rfl
theorem nb30 : noBlank Try.prog 30 = true := by kernel_rfl
@[go_sem ↓ high] theorem xl_GEntry (ρ : Operand → Value) (dst : Option Tmp) (x : Operand) (ty : TypeId) (pos : String) (after : Array Edge) (guard : Option (Nat × Bool)) : execOp ρ { dst, op := .load 30 x, type := ty, pos, after, guard } = (do pure (.value (← gLoad 30 (ρ x)))) := ex_load ..
@[go_sem ↓ high] theorem xs_GEntry (ρ : Operand → Value) (dst : Option Tmp) (x y : Operand) (ty : TypeId) (pos : String) (after : Array Edge) (guard : Option (Nat × Bool)) : execOp ρ { dst, op := .store 30 x y, type := ty, pos, after, guard } = (do gStore 30 (ρ x) (ρ y); pure .skip) := ex_store ..
@[go_sem ↓ high] theorem xb_GEntry (ρ : Operand → Value) (dst : Option Tmp) (x : Operand) (ty : TypeId) (pos : String) (after : Array Edge) (guard : Option (Nat × Bool)) : execOp ρ { dst, op := .box 30 x, type := ty, pos, after, guard } = (do pure (.value (← gBox 30 (ρ x)))) := ex_box ..
@[go_sem ↓ high] theorem xa_GEntry (ρ : Operand → Value) (dst : Option Tmp) (ty : TypeId) (pos : String) (after : Array Edge) (guard : Option (Nat × Bool)) : execOp ρ { dst, op := .alloc 30, type := ty, pos, after, guard } = (do pure (.value (← gAlloc 30))) := ex_alloc ..
theorem ag30 : aggT Try.prog 30 = true := by kernel_rfl
theorem sz30 : sizeT Try.prog 30 = 35 := by kernel_rfl
section
variable (w : World)
@[go_sem ↓ high] theorem ld_GEntry (a : Addr) : (gLoad 30 (.pointer (some a))).run Try.prog w = ofOpt ((get? GEntry w a).map GEntry.val) w (noLoad Try.prog 30 a w) := by
  unfold gLoad; exact run_loadAt_opt ag30 sz30 GEntry.val GEntry.val_eq
@[go_sem ↓ high] theorem st_GEntry (a : Addr) (x : GEntry) : (gStore 30 (.pointer (some a)) (GEntry.val x)).run Try.prog w = okU' ((get? GEntry w a).isSome && blkFree w a.block) (World.putCells w a (GEntry.enc x)) (noStore Try.prog 30 (.pointer (some a)) (GEntry.val x) w) := run_gStore_any sz30 GEntry.val GEntry.val_eq w a x
@[go_sem ↓ high] theorem bx_GEntry (x : GEntry) : (gBox 30 (GEntry.val x)).run Try.prog w = .ok (.pointer (some ⟨w.heap.size, 0, none⟩)) (w.alloc (.cells (GEntry.enc x).toArray 30)) := by
  rw [GEntry.val_eq]; exact run_gBox _ w
end
theorem ds30_0 (x : GEntry) : (x.enc.drop 0).take 2 = x.name.enc := by
  unfold GEntry.enc
  simp only [List.drop_zero]
  rw [List.take_append_of_le_length (by simp [GName.enc_len])]; exact List.take_of_length_le (by simp [GName.enc_len])
theorem pt30_0 (w : World) (x : GEntry) : (part 25 x.enc.toArray 0).run Try.prog w = .ok (x.name.val) w := by
  have h := run_part_agg (P := Try.prog) (w := w) (cs := x.enc) (ds := x.name.enc) (off := 0) ag25 (by rw [GName.enc_len]; exact sz25) (by simp [GName.enc_len]) (by rw [GName.enc_len]; exact ds30_0 x)
  rw [h, GName.val_eq]; rfl
@[go_sem ↓ high] theorem fd30_0 (w : World) (x : GEntry) : (gField 30 (GEntry.val x) 0).run Try.prog w = .ok (x.name.val) w := by
  rw [GEntry.val_eq]
  exact run_gField w uu30 (by rw [fl30]; rfl) (pt30_0 w x)
theorem ds30_1 (x : GEntry) : (x.enc.drop 2).take 32 = x.hash.enc := by
  unfold GEntry.enc
  simp [List.drop_append, List.drop_eq_nil_of_le, GName.enc_len]
  rw [List.take_append_of_le_length (by simp [GHash.enc_len])]; exact List.take_of_length_le (by simp [GHash.enc_len])
theorem pt30_1 (w : World) (x : GEntry) : (part 27 x.enc.toArray 2).run Try.prog w = .ok (x.hash.val) w := by
  have h := run_part_agg (P := Try.prog) (w := w) (cs := x.enc) (ds := x.hash.enc) (off := 2) ag27 (by rw [GHash.enc_len]; exact sz27) (by simp [GHash.enc_len]) (by rw [GHash.enc_len]; exact ds30_1 x)
  rw [h, GHash.val_eq]; rfl
@[go_sem ↓ high] theorem fd30_1 (w : World) (x : GEntry) : (gField 30 (GEntry.val x) 1).run Try.prog w = .ok (x.hash.val) w := by
  rw [GEntry.val_eq]
  exact run_gField w uu30 (by rw [fl30]; rfl) (pt30_1 w x)
theorem lk30_2 (x : GEntry) : x.enc[34]? = some (.int .u64 x.time) := by
  simp [GEntry.enc, List.getElem?_append, GHash.enc_len, GName.enc_len]
theorem pt30_2 (w : World) (x : GEntry) : (part 28 x.enc.toArray 34).run Try.prog w = .ok (.int .u64 x.time) w := run_part_one na28 us28 (lk30_2 x)
@[go_sem ↓ high] theorem fd30_2 (w : World) (x : GEntry) : (gField 30 (GEntry.val x) 2).run Try.prog w = .ok (.int .u64 x.time) w := by
  rw [GEntry.val_eq]
  exact run_gField w uu30 (by rw [fl30]; rfl) (pt30_2 w x)
@[go_sem ↓ high] theorem xf_GEntry (ρ : Operand → Value) (dst : Option Tmp) (x : Operand) (i : Nat) (ty : TypeId) (pos : String) (after : Array Edge) (guard : Option (Nat × Bool)) : execOp ρ { dst, op := .field 30 x i, type := ty, pos, after, guard } = (do pure (.value (← gField 30 (ρ x) i))) := ex_field ..
theorem zr30 : zeroT Try.prog 30 = some (.agg (GEntry.enc default).toArray) := by kernel_rfl
@[go_sem ↓ high] theorem al_GEntry (w : World) : (gAlloc 30).run Try.prog w = .ok (.pointer (some ⟨w.heap.size, 0, none⟩)) (w.alloc (.cells (GEntry.enc default).toArray 30)) := run_zero_alloc zr30 w
@[go_sem] theorem pc_GEntry (w : World) (n : Nat) (x z : GEntry) (hn : n = w.heap.size) : World.putCells (w.alloc (.cells (GEntry.enc z).toArray 30)) ⟨n, 0, none⟩ (GEntry.enc x) = w.alloc (.cells (GEntry.enc x).toArray 30) := putCells_top x z hn
theorem GEntry.at_name {w : World} {a : Addr} {x : GEntry} (h : get? GEntry w a = some x) : get? GName w (a.add 0) = some x.name := by
  rw [get?_iff] at h ⊢
  refine h.sub 0 fun j v hv => ?_
  have hd := ds30_0 x
  have hj : j < 2 := by have := (List.getElem?_eq_some_iff.1 hv).1; rwa [Enc.len] at this
  show x.enc[0 + j]? = some v
  rw [← List.getElem?_drop, ← List.getElem?_take_of_lt hj, hd]; exact hv
theorem GEntry.at_hash {w : World} {a : Addr} {x : GEntry} (h : get? GEntry w a = some x) : get? GHash w (a.add 2) = some x.hash := by
  rw [get?_iff] at h ⊢
  refine h.sub 2 fun j v hv => ?_
  have hd := ds30_1 x
  have hj : j < 32 := by have := (List.getElem?_eq_some_iff.1 hv).1; rwa [Enc.len] at this
  show x.enc[2 + j]? = some v
  rw [← List.getElem?_drop, ← List.getElem?_take_of_lt hj, hd]; exact hv
theorem GEntry.at_time {w : World} {a : Addr} {x : GEntry} (h : get? GEntry w a = some x) : w.cell? (a.add 34) = some (.int .u64 x.time) := (get?_iff.1 h) _ _ (lk30_2 x)
@[go_sem] theorem nw30_0_GName (w : World) (n : Nat) (x : GEntry) (hn : n = w.heap.size) : get? GName (w.alloc (.cells (GEntry.enc x).toArray 30)) ⟨n, 0, none⟩ = some x.name := by
  subst hn
  have h := (GEntry.at_name (get?_new (w := w) 30 x))
  simp only [Addr.add_lit, Nat.zero_add, Nat.reduceAdd] at h
  exact h
@[go_sem] theorem nl30_0 (x : GEntry) : x.enc[0]? = some (.int .i64 x.name.client) := by
  have h := (GName.at_client (GEntry.at_name (get?_new (w := (default : World)) 30 x)))
  simp only [Addr.add_lit, Nat.zero_add, Nat.reduceAdd, World.cell?_alloc_new, List.getElem?_toArray] at h
  exact h
@[go_sem] theorem nl30_1 (x : GEntry) : x.enc[1]? = some (.int .i64 x.name.seq) := by
  have h := (GName.at_seq (GEntry.at_name (get?_new (w := (default : World)) 30 x)))
  simp only [Addr.add_lit, Nat.zero_add, Nat.reduceAdd, World.cell?_alloc_new, List.getElem?_toArray] at h
  exact h
@[go_sem] theorem nw30_2_GHash (w : World) (n : Nat) (x : GEntry) (hn : n = w.heap.size) : get? GHash (w.alloc (.cells (GEntry.enc x).toArray 30)) ⟨n, 2, none⟩ = some x.hash := by
  subst hn
  have h := (GEntry.at_hash (get?_new (w := w) 30 x))
  simp only [Addr.add_lit, Nat.zero_add, Nat.reduceAdd] at h
  exact h
@[go_sem] theorem nl30_34 (x : GEntry) : x.enc[34]? = some (.int .u64 x.time) := by
  have h := (GEntry.at_time (get?_new (w := (default : World)) 30 x))
  simp only [Addr.add_lit, Nat.zero_add, Nat.reduceAdd, World.cell?_alloc_new, List.getElem?_toArray] at h
  exact h
@[go_sem] theorem nw30 (w : World) (n : Nat) (x : GEntry) (hn : n = w.heap.size) : get? GEntry (w.alloc (.cells (GEntry.enc x).toArray 30)) ⟨n, 0, none⟩ = some x := by
  subst hn; exact get?_new 30 x
theorem pl30 : ((Try.prog.fieldsOf 30).toList.mapM fun f => (Try.prog.info? f.type).map fun i => (f.offset, i.size)) = some [(0, 2), (2, 32), (34, 1)] := by kernel_rfl
theorem fs30_0 (x : GEntry) (v : GName) (rest : List (Nat × Value)) : Instr.fill (fun i => ([(0, 2), (2, 32), (34, 1)] : List (Nat × Nat))[i]?) x.enc.toArray ((0, (v.val)) :: rest) = Instr.fill (fun i => ([(0, 2), (2, 32), (34, 1)] : List (Nat × Nat))[i]?) ({ x with name := v } : GEntry).enc.toArray rest := by
  have h := fill_seg [(0, 2), (2, 32), (34, 1)] 0 0 2 rfl (([] : List Value)) (x.name.enc) (x.hash.enc ++ ([(.int .u64 x.time)] ++ (([] : List Value)))) (v.enc) (v.val) rest (by rw [GName.val_eq]; rfl) (by simp [GHash.enc_len, GName.enc_len]) (by simp [GHash.enc_len, GName.enc_len]) (by simp [GHash.enc_len, GName.enc_len])
  have e1 : x.enc = (([] : List Value)) ++ (x.name.enc ++ (x.hash.enc ++ ([(.int .u64 x.time)] ++ (([] : List Value))))) := by simp [GEntry.enc]
  have e2 : ({ x with name := v } : GEntry).enc = (([] : List Value)) ++ (v.enc ++ (x.hash.enc ++ ([(.int .u64 x.time)] ++ (([] : List Value))))) := by simp [GEntry.enc]
  rw [e1, e2]; exact h
theorem fs30_1 (x : GEntry) (v : GHash) (rest : List (Nat × Value)) : Instr.fill (fun i => ([(0, 2), (2, 32), (34, 1)] : List (Nat × Nat))[i]?) x.enc.toArray ((1, (v.val)) :: rest) = Instr.fill (fun i => ([(0, 2), (2, 32), (34, 1)] : List (Nat × Nat))[i]?) ({ x with hash := v } : GEntry).enc.toArray rest := by
  have h := fill_seg [(0, 2), (2, 32), (34, 1)] 1 2 32 rfl (([] : List Value) ++ (x.name.enc)) (x.hash.enc) ([(.int .u64 x.time)] ++ (([] : List Value))) (v.enc) (v.val) rest (by rw [GHash.val_eq]; rfl) (by simp [GHash.enc_len, GName.enc_len]) (by simp [GHash.enc_len, GName.enc_len]) (by simp [GHash.enc_len, GName.enc_len])
  have e1 : x.enc = (([] : List Value) ++ (x.name.enc)) ++ (x.hash.enc ++ ([(.int .u64 x.time)] ++ (([] : List Value)))) := by simp [GEntry.enc]
  have e2 : ({ x with hash := v } : GEntry).enc = (([] : List Value) ++ (x.name.enc)) ++ (v.enc ++ ([(.int .u64 x.time)] ++ (([] : List Value)))) := by simp [GEntry.enc]
  rw [e1, e2]; exact h
theorem fs30_2 (x : GEntry) (v : Int) (rest : List (Nat × Value)) : Instr.fill (fun i => ([(0, 2), (2, 32), (34, 1)] : List (Nat × Nat))[i]?) x.enc.toArray ((2, (.int .u64 v)) :: rest) = Instr.fill (fun i => ([(0, 2), (2, 32), (34, 1)] : List (Nat × Nat))[i]?) ({ x with time := v } : GEntry).enc.toArray rest := by
  have h := fill_seg [(0, 2), (2, 32), (34, 1)] 2 34 1 rfl (([] : List Value) ++ (x.name.enc ++ (x.hash.enc))) ([(.int .u64 x.time)]) (([] : List Value)) ([(.int .u64 v)]) (.int .u64 v) rest (rfl) (by simp [GHash.enc_len, GName.enc_len]) (by simp [GHash.enc_len, GName.enc_len]) (by simp [GHash.enc_len, GName.enc_len])
  have e1 : x.enc = (([] : List Value) ++ (x.name.enc ++ (x.hash.enc))) ++ ([(.int .u64 x.time)] ++ (([] : List Value))) := by simp [GEntry.enc]
  have e2 : ({ x with time := v } : GEntry).enc = (([] : List Value) ++ (x.name.enc ++ (x.hash.enc))) ++ ([(.int .u64 v)] ++ (([] : List Value))) := by simp [GEntry.enc]
  rw [e1, e2]; exact h
@[go_sem ↓ high] theorem xd_GEntry (ρ : Operand → Value) (dst : Option Tmp) (ps : Array (Nat × Operand)) (ty : TypeId) (pos : String) (after : Array Edge) (guard : Option (Nat × Bool)) : execOp ρ { dst, op := .build 30 ps, type := ty, pos, after, guard } = (do pure (.value (← gBuild 30 (ps.map fun (i, x) => (i, ρ x))))) := ex_build ..
@[go_sem ↓ high] theorem bd30_0 (w : World) (v0 : GName) (v2 : Int) : (gBuild 30 #[(0, (v0.val)), (2, (.int .u64 v2))]).run Try.prog w = .ok (GEntry.val ⟨v0, default, v2⟩) w := by
  rw [GEntry.val_eq]
  refine run_gBuild_of uu30 zr30 pl30 ?_ w
  show Instr.fill _ (GEntry.enc default).toArray [(0, (v0.val)), (2, (.int .u64 v2))] = _
  rw [fs30_0, fs30_2]; rfl
@[go_sem ↓ high] theorem bd30_1 (w : World) (v2 : Int) : (gBuild 30 #[(2, (.int .u64 v2))]).run Try.prog w = .ok (GEntry.val ⟨default, default, v2⟩) w := by
  rw [GEntry.val_eq]
  refine run_gBuild_of uu30 zr30 pl30 ?_ w
  show Instr.fill _ (GEntry.enc default).toArray [(2, (.int .u64 v2))] = _
  rw [fs30_2]; rfl
@[go_sem ↓ high] theorem bd30_2 (w : World) (v0 : GName) (v1 : GHash) (v2 : Int) : (gBuild 30 #[(0, (v0.val)), (1, (v1.val)), (2, (.int .u64 v2))]).run Try.prog w = .ok (GEntry.val ⟨v0, v1, v2⟩) w := by
  rw [GEntry.val_eq]
  refine run_gBuild_of uu30 zr30 pl30 ?_ w
  show Instr.fill _ (GEntry.enc default).toArray [(0, (v0.val)), (1, (v1.val)), (2, (.int .u64 v2))] = _
  rw [fs30_0, fs30_1, fs30_2]; rfl
theorem eq_GEntry (w : World) (d : Nat) (x y : GEntry) : (Op.equalIn (d + 3) 30 (GEntry.val x) (GEntry.val y)).run Try.prog w = .ok (decide (x = y)) w := by
  have q0 : (Op.equalIn (d + 2) 25 x.name.val y.name.val).run Try.prog w = .ok (decide (x.name = y.name)) w := eq_GName w (d + 0) _ _
  have q1 : (Op.equalIn (d + 2) 27 x.hash.val y.hash.val).run Try.prog w = .ok (decide (x.hash = y.hash)) w := eq_GHash w (d + 0) _ _
  have q2 : ∀ a b, (Op.equalIn (d + 2) 28 (.int .u64 a) (.int .u64 b)).run Try.prog w = .ok (decide (a = b)) w := fun a b => by rw [run_equalIn_int w (d + 1) 28 .u64 .u64 a b uk28]; congr 1
  have h := run_equalIn_fields (d + 2) x.enc.toArray y.enc.toArray w uu30 st30 nb30
  rw [fl30] at h
  unfold GEntry.val
  refine h.trans ?_
  clear h
  simp only [eqFs, Sem.run_bind, pt30_0, pt30_1, pt30_2, q0, q1, q2, Result.andThen_ok, Sem.run_ite, Sem.run_pure]
  have he : decide (x = y) = (decide (x.name = y.name) && (decide (x.hash = y.hash) && (decide (x.time = y.time)))) := by
    rw [Bool.eq_iff_iff]; simp only [Bool.and_eq_true, decide_eq_true_eq]; exact GEntry.ext_all x y
  rw [he]
  generalize decide (x.name = y.name) = c0; generalize decide (x.hash = y.hash) = c1; generalize decide (x.time = y.time) = c2
  cases c0 <;> cases c1 <;> cases c2 <;> simp
@[go_sem ↓ high] theorem xq_GEntry (ρ : Operand → Value) (dst : Option Tmp) (x y : Operand) (ty yt : TypeId) (pos : String) (after : Array Edge) (guard : Option (Nat × Bool)) : execOp ρ { dst, op := .binOp .eql 30 x y yt, type := ty, pos, after, guard } = (do pure (.value (← gBin .eql 30 x y (ρ x) (ρ y)))) := ex_eql ..
@[go_sem ↓ high] theorem xn_GEntry (ρ : Operand → Value) (dst : Option Tmp) (x y : Operand) (ty yt : TypeId) (pos : String) (after : Array Edge) (guard : Option (Nat × Bool)) : execOp ρ { dst, op := .binOp .neq 30 x y yt, type := ty, pos, after, guard } = (do pure (.value (← gBin .neq 30 x y (ρ x) (ρ y)))) := ex_neq ..
theorem eg_GEntry : Try.prog.eqGuardType Try.prog.depth 30 = false := by kernel_rfl
@[go_sem ↓ high] theorem eql_GEntry (w : World) (ox oy : Operand) (x y : GEntry) : (gBin .eql 30 ox oy (GEntry.val x) (GEntry.val y)).run Try.prog w = .ok (.bool (decide (x = y))) w := by
  have h2 := eq_GEntry w 9997 x y
  rw [GEntry.val_eq, GEntry.val_eq] at h2 ⊢
  have h := run_eqGuard_agg (P := Try.prog) w .eql 30 ox oy (Enc.enc x).toArray (Enc.enc y).toArray eg_GEntry
  unfold gBin
  simp only [Sem.run_bind, h, Result.andThen_ok, run_eql_struct, h2]
@[go_sem ↓ high] theorem neq_GEntry (w : World) (ox oy : Operand) (x y : GEntry) : (gBin .neq 30 ox oy (GEntry.val x) (GEntry.val y)).run Try.prog w = .ok (.bool (!decide (x = y))) w := by
  have h2 := eq_GEntry w 9997 x y
  rw [GEntry.val_eq, GEntry.val_eq] at h2 ⊢
  have h := run_eqGuard_agg (P := Try.prog) w .neq 30 ox oy (Enc.enc x).toArray (Enc.enc y).toArray eg_GEntry
  unfold gBin
  simp only [Sem.run_bind, h, Result.andThen_ok, run_neq_struct, h2]
/-! ### []api.Entry -/
theorem ei22 : ElemI Try.prog 22 30 GEntry 56 := ⟨by kernel_rfl, by kernel_rfl⟩
@[go_sem ↓ high] theorem xg_22 (ρ : Operand → Value) (dst : Option Tmp) (ps : Array (Nat × Operand)) (ty : TypeId) (pos : String) (after : Array Edge) (guard : Option (Nat × Bool)) : execOp ρ { dst, op := .buildSlice 22 1 ps, type := ty, pos, after, guard } = (do pure (.value (← gBuildSlice 22 1 (ps.map fun (i, x) => (i, ρ x))))) := ex_buildSlice ..
@[go_sem ↓ high] theorem bs_22 (w : World) (x : GEntry) : (gBuildSlice 22 1 #[(0, GEntry.val x)]).run Try.prog w = .ok (.slice (some ⟨w.heap.size, 0, none⟩) 1 1) (w.alloc (.cells (GEntry.enc x).toArray 30)) := by
  rw [GEntry.val_eq]; exact run_buildSlice_one ei22 (by decide) x w
/-! ### [][]api.Entry -/
theorem ei39 : ElemI Try.prog 39 22 Hdr 24 := ⟨by kernel_rfl, by kernel_rfl⟩
/-! ### []uint64 -/
theorem ei36 : ElemI Try.prog 36 28 U64 8 := ⟨by kernel_rfl, by kernel_rfl⟩
/-! ### [][]uint64 -/
theorem ei42 : ElemI Try.prog 42 36 Hdr 24 := ⟨by kernel_rfl, by kernel_rfl⟩
/-! ### []int -/
theorem ei45 : ElemI Try.prog 45 3 I64 8 := ⟨by kernel_rfl, by kernel_rfl⟩
/-! ### []api.Name -/
theorem ei41 : ElemI Try.prog 41 25 GName 16 := ⟨by kernel_rfl, by kernel_rfl⟩
@[go_sem ↓ high] theorem xg_41 (ρ : Operand → Value) (dst : Option Tmp) (ps : Array (Nat × Operand)) (ty : TypeId) (pos : String) (after : Array Edge) (guard : Option (Nat × Bool)) : execOp ρ { dst, op := .buildSlice 41 1 ps, type := ty, pos, after, guard } = (do pure (.value (← gBuildSlice 41 1 (ps.map fun (i, x) => (i, ρ x))))) := ex_buildSlice ..
@[go_sem ↓ high] theorem bs_41 (w : World) (x : GName) : (gBuildSlice 41 1 #[(0, GName.val x)]).run Try.prog w = .ok (.slice (some ⟨w.heap.size, 0, none⟩) 1 1) (w.alloc (.cells (GName.enc x).toArray 25)) := by
  rw [GName.val_eq]; exact run_buildSlice_one ei41 (by decide) x w
instance : KEnc GName := ⟨GName.val, fun a b h => by rw [GName.val_eq, GName.val_eq] at h; injection h with h; exact Enc.inj _ _ (by simpa using congrArg Array.toList h)⟩
theorem kl25 : KeyLaws Try.prog 25 GName where
  chk := fun e k w => by
    show (Instr.checkKey e 10000 25 (GName.val k)).run Try.prog w = _
    rw [GName.val_eq]
    rw [run_checkKey_struct e 9999 _ w uu25 nb25, fl25]
    show (chkFs e 9999 k.enc.toArray _).run Try.prog w = _
    simp only [chkFs, Sem.run_bind, pt25_0, pt25_1, Result.andThen_ok, run_checkKey_one e 9998 uk3, Sem.run_pure]
  fnd := fnd_struct (fun k k' w => eq_GName w 9998 k k') uu25 (fun k k' => by show Instr.sameNow _ (GName.val k) (GName.val k') = none; rw [GName.val_eq, GName.val_eq]; rfl)
  same := fun k => by
    show Instr.sameBits 10000 (GName.val k) (GName.val k) = true
    rw [GName.val_eq]
    exact sameBits_cells 9999 _ (Enc.one k) (fun u hu => by
      have hu' : u ∈ k.enc := hu
      unfold GName.enc at hu'
      simp only [List.mem_append, List.mem_singleton] at hu'
      rcases hu' with rfl | rfl <;> exact sameBits_int _ _ _)

/-! ### map[api.Name][]uint64 -/
theorem um37 : Try.prog.underlying 37 = some (.map 25 36) := by kernel_rfl
theorem zv37_36 : zeroT Try.prog 36 = some (VEnc.vv (default : Hdr)) := by kernel_rfl
@[go_sem ↓ high] theorem xk_37 (ρ : Operand → Value) (dst : Option Tmp) (x y : Operand) (ok : Bool) (ty : TypeId) (pos : String) (after : Array Edge) (guard : Option (Nat × Bool)) : execOp ρ { dst, op := .lookup 37 x y ok, type := ty, pos, after, guard } = (do pure (.value (← gLookup 37 (ρ x) (ρ y) ok))) := ex_lookup ..
@[go_sem ↓ high] theorem xu_37 (ρ : Operand → Value) (dst : Option Tmp) (x y z : Operand) (ty : TypeId) (pos : String) (after : Array Edge) (guard : Option (Nat × Bool)) : execOp ρ { dst, op := .mapUpdate 37 x y z, type := ty, pos, after, guard } = (do gMapUpdate 37 (ρ x) (ρ y) (ρ z); pure .skip) := ex_mapUpdate ..
@[go_sem ↓ high] theorem lk_37 (w : World) (r : Nat) (k : GName) : (gLookup 37 (.map (some r)) (GName.val k) false).run Try.prog w = ofOpt ((mapAt GName Hdr w r).map fun m => (Hdr.val ((mget m k).getD default))) w (noLookup Try.prog 37 (.map (some r)) (GName.val k) false w) :=
  run_gLookup kl25 um37 zv37_36 w r k
@[go_sem ↓ high] theorem lo_37 (w : World) (r : Nat) (k : GName) : (gLookup 37 (.map (some r)) (GName.val k) true).run Try.prog w = ofOpt ((mapAt GName Hdr w r).map fun m => .tuple #[(Hdr.val ((mget m k).getD default)), .bool (mget m k).isSome]) w (noLookup Try.prog 37 (.map (some r)) (GName.val k) true w) :=
  run_gLookup_ok kl25 um37 zv37_36 w r k
@[go_sem ↓ high] theorem ln_37 (w : World) (k : GName) : (gLookup 37 (.map none) (GName.val k) false).run Try.prog w = .ok (Hdr.val (default : Hdr)) w :=
  run_gLookup_nil kl25 um37 zv37_36 w k
@[go_sem ↓ high] theorem mu_37 (w : World) (r : Nat) (k : GName) (v : Hdr) : (gMapUpdate 37 (.map (some r)) (GName.val k) (Hdr.val v)).run Try.prog w = okU ((mapAt GName Hdr w r).isSome) (mput Try.prog 37 w r k v) (noUpdate Try.prog 37 (.map (some r)) (GName.val k) (Hdr.val v) w) :=
  run_gMapUpdate kl25 um37 w r k v
@[go_sem] theorem sz_mput_37 (w : World) (r : Nat) (k : GName) (v : Hdr) (h : (mapAt GName Hdr w r).isSome = true) : (mput Try.prog 37 w r k v).heap.size = w.heap.size := by
  obtain ⟨m, hm⟩ := Option.isSome_iff_exists.1 h; exact mput_size kl25 um37 hm k v

/-! ### map[api.Name]bool -/
theorem um110 : Try.prog.underlying 110 = some (.map 25 4) := by kernel_rfl
theorem zv110_4 : zeroT Try.prog 4 = some (VEnc.vv (false : Bool)) := by kernel_rfl
@[go_sem ↓ high] theorem xk_110 (ρ : Operand → Value) (dst : Option Tmp) (x y : Operand) (ok : Bool) (ty : TypeId) (pos : String) (after : Array Edge) (guard : Option (Nat × Bool)) : execOp ρ { dst, op := .lookup 110 x y ok, type := ty, pos, after, guard } = (do pure (.value (← gLookup 110 (ρ x) (ρ y) ok))) := ex_lookup ..
@[go_sem ↓ high] theorem xu_110 (ρ : Operand → Value) (dst : Option Tmp) (x y z : Operand) (ty : TypeId) (pos : String) (after : Array Edge) (guard : Option (Nat × Bool)) : execOp ρ { dst, op := .mapUpdate 110 x y z, type := ty, pos, after, guard } = (do gMapUpdate 110 (ρ x) (ρ y) (ρ z); pure .skip) := ex_mapUpdate ..
@[go_sem ↓ high] theorem lk_110 (w : World) (r : Nat) (k : GName) : (gLookup 110 (.map (some r)) (GName.val k) false).run Try.prog w = ofOpt ((mapAt GName Bool w r).map fun m => (.bool ((mget m k).getD false))) w (noLookup Try.prog 110 (.map (some r)) (GName.val k) false w) :=
  run_gLookup kl25 um110 zv110_4 w r k
@[go_sem ↓ high] theorem lo_110 (w : World) (r : Nat) (k : GName) : (gLookup 110 (.map (some r)) (GName.val k) true).run Try.prog w = ofOpt ((mapAt GName Bool w r).map fun m => .tuple #[(.bool ((mget m k).getD false)), .bool (mget m k).isSome]) w (noLookup Try.prog 110 (.map (some r)) (GName.val k) true w) :=
  run_gLookup_ok kl25 um110 zv110_4 w r k
@[go_sem ↓ high] theorem ln_110 (w : World) (k : GName) : (gLookup 110 (.map none) (GName.val k) false).run Try.prog w = .ok (.bool (false : Bool)) w :=
  run_gLookup_nil kl25 um110 zv110_4 w k
@[go_sem ↓ high] theorem mu_110 (w : World) (r : Nat) (k : GName) (v : Bool) : (gMapUpdate 110 (.map (some r)) (GName.val k) (.bool v)).run Try.prog w = okU ((mapAt GName Bool w r).isSome) (mput Try.prog 110 w r k v) (noUpdate Try.prog 110 (.map (some r)) (GName.val k) (.bool v) w) :=
  run_gMapUpdate kl25 um110 w r k v
@[go_sem] theorem sz_mput_110 (w : World) (r : Nat) (k : GName) (v : Bool) (h : (mapAt GName Bool w r).isSome = true) : (mput Try.prog 110 w r k v).heap.size = w.heap.size := by
  obtain ⟨m, hm⟩ := Option.isSome_iff_exists.1 h; exact mput_size kl25 um110 hm k v

end Go.Proofs.Yteockodnfempfaa
/- Arguments that came in read as Lean values; the frame of a law that returns true. Conditions: those named in each theorem. -/
namespace Go.Gv
open Go Go.RowKit

/-- What an argument's cells read as, for a type whose values have an encoding. -/
def Opens (P : Program) (W : World) (t : TypeId) (α : Type) [Enc α] (Ok : α → Prop) : Prop :=
  ∀ (H : Type) (enc : TypeId × Value → H) (fuel : Nat) (cs : List Value) (x : DataW H × List MemPlace), DataW.trod enc P W 0 (fun _ => true) true fuel t cs = some x → ∃ y : α, cs = Enc.enc y ∧ Ok y

def FitI (k : IntKind) (n : Int) : Prop := (Lit.int k n).wf = true
theorem FitI.i64 {n : Int} (h : FitI .i64 n) : -9223372036854775808 ≤ n ∧ n ≤ 9223372036854775807 := by
  have h := (Lit.wf_int_iff _ _).1 h
  have e1 : IntKind.i64.min = -9223372036854775808 := rfl
  have e2 : IntKind.i64.max = 9223372036854775807 := rfl
  omega
theorem FitI.u64 {n : Int} (h : FitI .u64 n) : 0 ≤ n ∧ n ≤ 18446744073709551615 := by
  have h := (Lit.wf_int_iff _ _).1 h
  have e1 : IntKind.u64.min = 0 := rfl
  have e2 : IntKind.u64.max = 18446744073709551615 := rfl
  omega
theorem FitI.u8 {n : Int} (h : FitI .u8 n) : 0 ≤ n ∧ n ≤ 255 := by
  have h := (Lit.wf_int_iff _ _).1 h
  have e1 : IntKind.u8.min = 0 := rfl
  have e2 : IntKind.u8.max = 255 := rfl
  omega

section
variable {P : Program} {W : World} {t e : TypeId}
theorem opens_i64 (ht : P.underlying t = some (.int .i64)) : Opens P W t I64 (fun x => FitI .i64 x.v) := fun H enc fuel cs x h => by
  obtain ⟨n, rfl, _, hw⟩ := DataW.trod_int ht h
  exact ⟨⟨n⟩, rfl, hw⟩
theorem opens_u64 (ht : P.underlying t = some (.int .u64)) : Opens P W t U64 (fun x => FitI .u64 x.v) := fun H enc fuel cs x h => by
  obtain ⟨n, rfl, _, hw⟩ := DataW.trod_int ht h
  exact ⟨⟨n⟩, rfl, hw⟩
theorem opens_bool (ht : P.underlying t = some .bool) : Opens P W t BoolV (fun _ => True) := fun H enc fuel cs x h => by
  obtain ⟨b, rfl, _⟩ := DataW.trod_bool ht h
  exact ⟨⟨b⟩, rfl, trivial⟩
theorem opens_string (ht : P.underlying t = some .string) : Opens P W t StrV (fun x => x.v.size ≤ maxLen) := fun H enc fuel cs x h => by
  obtain ⟨s, rfl, _, hs⟩ := DataW.trod_string ht h
  exact ⟨⟨s⟩, rfl, hs⟩
theorem u8_of {n : Int} (h : FitI .u8 n) : ∃ b : UInt8, Value.int .u8 n = encU8 b := by
  have := FitI.u8 h
  refine ⟨UInt8.ofNat n.toNat, ?_⟩
  unfold encU8
  congr 1
  rw [UInt8.toNat_ofNat']
  omega
theorem opens_u8 (ht : P.underlying t = some (.int .u8)) : Opens P W t U8 (fun _ => True) := fun H enc fuel cs x h => by
  obtain ⟨n, rfl, _, hw⟩ := DataW.trod_int ht h
  obtain ⟨b, hb⟩ := u8_of hw
  exact ⟨⟨b⟩, by rw [hb]; rfl, trivial⟩
theorem bytes_of : ∀ (cs : List Value), (∀ v ∈ cs, ∃ b : UInt8, v = encU8 b) → ∃ l : List UInt8, cs = l.map encU8
  | [], _ => ⟨[], rfl⟩
  | v :: cs, h => by
    obtain ⟨b, rfl⟩ := h v (by simp)
    obtain ⟨l, rfl⟩ := bytes_of cs fun v hv => h v (by simp [hv])
    exact ⟨b :: l, rfl⟩
theorem opens_hash {t8 : TypeId} (ht : P.underlying t = some (.array 32 t8)) (hs : P.cellsOf t = 32) (h8 : P.underlying t8 = some (.int .u8)) (hs8 : P.cellsOf t8 = 1) : Opens P W t GHash (fun _ => True) := fun H enc fuel cs x h => by
  obtain ⟨xs, m, _, _, hl, hxl, hx⟩ := DataW.trod_array ht h
  rw [hs] at hl
  obtain ⟨l, hl'⟩ := bytes_of cs fun v hv => by
    obtain ⟨i, hi, rfl⟩ := List.mem_iff_getElem.1 hv
    have h1 := hx i (by omega)
    rw [hs8, Nat.mul_one, List.getElem?_eq_getElem (by omega), List.drop_eq_getElem_cons hi] at h1
    obtain ⟨n, e, _, hw⟩ := DataW.trod_int h8 h1
    injection e with e _
    rw [e]; exact u8_of hw
  subst hl'
  exact ⟨⟨l, by simpa using hl⟩, rfl, trivial⟩
/-- A slice's own cells, its elements read as values of α. -/
def SlOk (W : World) (α : Type) [Enc α] (Ok : α → Prop) (h : Hdr) : Prop := ∃ xs : List α, Sl α W W.heap.size h.a h.len xs ∧ (∀ x ∈ xs, Ok x) ∧ h.len ≤ h.cap ∧ h.cap ≤ maxLen
theorem opens_slice {α : Type} [Enc α] {Ok : α → Prop} (ht : P.underlying t = some (.slice e)) (hc : P.cellsOf e = Enc.n α) (he : Opens P W e α Ok) : Opens P W t Hdr (SlOk W α Ok) := fun H enc fuel cs x h => by
  rcases DataW.trod_slice ht h with ⟨rfl, _⟩ | ⟨a, len, cap, elems, rest, n, _, rfl, _, _, hl, hm, hlen, hel, hsp⟩
  · exact ⟨⟨none, 0, 0⟩, rfl, [], Sl.nil, by simp, by simp, by simp⟩
  · rw [hc] at hel
    have key : ∀ k, k < len → ∃ y : α, get? α W (a.add (k * Enc.n α)) = some y ∧ Ok y := by
      intro k hk
      have h1 := hel k hk
      rw [List.getElem?_eq_getElem (by omega)] at h1
      obtain ⟨cs', h2, h3⟩ := Option.bind_eq_some_iff.1 h1
      obtain ⟨_, h4, h5⟩ := World.cells?_some h2
      obtain ⟨y, rfl, hok⟩ := he H enc _ _ _ h3
      refine ⟨y, get?_iff.2 fun j v hj => ?_, hok⟩
      have hj' : j < Enc.n α := by rw [← h4]; exact (List.getElem?_eq_some_iff.1 hj).1
      rw [h5 j hj', hj]
    have hxs : ∃ xs : List α, xs.length = len ∧ ∀ k y, xs[k]? = some y → get? α W (a.add (k * Enc.n α)) = some y ∧ Ok y := by
      clear h hl hm hlen hel hsp
      induction len with
      | zero => exact ⟨[], rfl, by simp⟩
      | succ m ih =>
        obtain ⟨xs, h1, h2⟩ := ih fun k hk => key k (by omega)
        obtain ⟨y, hy⟩ := key m (by omega)
        refine ⟨xs ++ [y], by simp [h1], fun k z hz => ?_⟩
        by_cases hkm : k < m
        · rw [List.getElem?_append_left (by omega)] at hz; exact h2 k z hz
        · rw [List.getElem?_append_right (by omega)] at hz
          have : k = m := by
            have := (List.getElem?_eq_some_iff.1 hz).1
            simp at this; omega
          subst this
          simp [h1] at hz
          subst hz; exact hy
    obtain ⟨xs, hx1, hx2⟩ := hxs
    refine ⟨⟨some a, len, cap⟩, rfl, xs, ⟨hx1, fun h0 => ⟨a, rfl, ?_, fun k y hy => (hx2 k y hy).1⟩⟩, ?_, hl, hm⟩
    · have := get?_lt (hx2 0 (xs[0]'(by simp only at h0; omega)) (List.getElem?_eq_getElem _)).1
      rwa [add_block] at this
    · intro y hy
      obtain ⟨k, hk, rfl⟩ := List.mem_iff_getElem.1 hy
      exact (hx2 k _ (List.getElem?_eq_getElem hk)).2
theorem drop_split (l : List Value) (o s : Nat) : l.drop o = (l.drop o).take s ++ l.drop (o + s) := by
  rw [← List.drop_drop, List.take_append_drop]
theorem open_fields {fs : Array Field} {H : Type} {enc : TypeId × Value → H} {fuel : Nat} {cs : List Value} {x : DataW H × List MemPlace} (ht : P.underlying t = some (.struct fs)) (h : DataW.trod enc P W 0 (fun _ => true) true fuel t cs = some x) :
    cs.length = P.cellsOf t ∧ ∃ n, ∀ (i : Nat) (f : Field), fs[i]? = some f → ∃ y, DataW.trod enc P W 0 (fun _ => true) true n f.type ((cs.drop f.offset).take (P.cellsOf f.type)) = some y := by
  obtain ⟨xs, n, _, _, h1, h2, h3⟩ := DataW.trod_struct ht h
  refine ⟨h1, n, fun i f hf => ⟨xs[i]'(by rw [h2]; exact (Array.getElem?_eq_some_iff.1 hf).1), ?_⟩⟩
  rw [h3 i f hf]
  exact List.getElem?_eq_getElem _
theorem open_fieldT {H : Type} {enc : TypeId × Value → H} {fuel : Nat} {cs : List Value} {x : DataW H × List MemPlace} (ht : P.underlying t = some (.struct (P.fieldsOf t))) (h : DataW.trod enc P W 0 (fun _ => true) true fuel t cs = some x) :
    cs.length = P.cellsOf t ∧ ∃ n, ∀ (i : Nat) (ft : TypeId) (off : Nat), (fieldTO P t)[i]? = some (ft, off) → ∃ y, DataW.trod enc P W 0 (fun _ => true) true n ft ((cs.drop off).take (P.cellsOf ft)) = some y := by
  obtain ⟨h1, n, h2⟩ := open_fields ht h
  refine ⟨h1, n, fun i ft off hf => ?_⟩
  unfold fieldTO at hf
  simp only [List.getElem?_map, Array.getElem?_toList, Option.map_eq_some_iff, Prod.mk.injEq] at hf
  obtain ⟨f, h3, rfl, rfl⟩ := hf
  exact h2 i f h3
theorem open_hdr {α : Type} [Enc α] {Ok : α → Prop} {H : Type} {enc : TypeId × Value → H} {v : Value} {d : DataW H} {ps : List MemPlace} (ho : Opens P W t α Ok) (h : DataW.Trod enc P W 0 (fun _ => true) true t v d ps) : ∃ y : α, v.cells.toList = Enc.enc y ∧ Ok y := by
  obtain ⟨fuel, h⟩ := h
  exact ho H enc fuel _ _ h

section
variable {H : Type} {enc : TypeId × Value → H} {v : Value} {d : DataW H} {ps : List MemPlace} {r : Reach} {base : Nat}
theorem arg_slice {Ok : Hdr → Prop} (ht : P.underlying t = some (.slice e)) (ho : Opens P W t Hdr Ok) (hv : Value.okWide P W r base t v) (h : DataW.Trod enc P W 0 (fun _ => true) true t v d ps) : ∃ (A : Option Addr) (n c : Nat), v = .slice A n c ∧ Ok ⟨A, n, c⟩ := by
  obtain ⟨a, len, cap, rfl⟩ := WideShapes.okWide_slice ht hv
  obtain ⟨y, e, hy⟩ := open_hdr ho h
  have e' : Value.slice a len cap = .slice y.a y.len y.cap := by simpa [Value.cells, Enc.enc, Hdr.val] using e
  injection e' with h1 h2 h3
  subst h1; subst h2; subst h3
  exact ⟨_, _, _, rfl, hy⟩
theorem arg_int {k : IntKind} (ht : P.underlying t = some (.int k)) (hv : Value.okWide P W r base t v) (h : DataW.Trod enc P W 0 (fun _ => true) true t v d ps) : ∃ n, v = .int k n ∧ FitI k n := by
  obtain ⟨n, rfl⟩ := WideShapes.okWide_int ht hv
  obtain ⟨fuel, h⟩ := h
  obtain ⟨m, e, _, hw⟩ := DataW.trod_int ht h
  have e' : Value.int k n = .int k m := by simpa [Value.cells] using e
  injection e' with _ e'; subst e'
  exact ⟨n, rfl, hw⟩
theorem arg_bool (ht : P.underlying t = some .bool) (hv : Value.okWide P W r base t v) : ∃ b, v = .bool b := WideShapes.okWide_bool ht hv
theorem arg_agg {α : Type} [Enc α] {Ok : α → Prop} {fs : Array Field} (ht : P.underlying t = some (.struct fs)) (ho : Opens P W t α Ok) (hv : Value.okWide P W r base t v) (h : DataW.Trod enc P W 0 (fun _ => true) true t v d ps) : ∃ y : α, v = .agg (Enc.enc y).toArray ∧ Ok y := by
  obtain ⟨cs, rfl, _⟩ := WideShapes.okWide_struct ht hv
  obtain ⟨y, e, hy⟩ := open_hdr ho h
  have e' : cs.toList = Enc.enc y := by simpa [Value.cells] using e
  exact ⟨y, by rw [← e'], hy⟩
end

/-! ### The frame of a law that returns true and leaves what was there -/
theorem trodAll_below {H : Type} {enc : TypeId × Value → H} {W' : World} (hl : laidOutB P = true) (hb : Below W.heap.size W W') : ∀ {ts : List TypeId} {vs : List Value} {ds : List (DataW H)} {ps : List MemPlace}, (ts.all fun t => P.readableRec t && decide (t < P.types.size)) = true →
    DataW.TrodAll enc P W 0 (fun _ => true) true ts vs ds ps → (∀ x ∈ ps, x.block < W.heap.size) → DataW.TrodAll enc P W' 0 (fun b => decide (b < W.heap.size)) true ts vs ds ps
  | [], [], [], ps, _, h, _ => h
  | t :: ts, v :: vs, d :: ds, ps, hr, ⟨p, q, h1, h2, hp⟩, hlt => by
    simp only [List.all_cons, Bool.and_eq_true, decide_eq_true_eq] at hr
    subst hp
    exact ⟨p, q, Below.trod hl hr.1.1 hr.1.2 h1 hb (fun x hx => hlt x (by simp [hx])), trodAll_below hl hb hr.2 h2 (fun x hx => hlt x (by simp [hx])), rfl⟩
  | [], _ :: _, _, _, _, h, _ => h.elim
  | [], [], _ :: _, _, _, h, _ => h.elim
  | _ :: _, [], _, _, _, h, _ => h.elim
  | _ :: _, _ :: _, [], _, _, h, _ => h.elim
theorem law_post {H : Type} {enc : TypeId × Value → H} {f : Func} {s : ChangeSpec} {W' : World} {args : Array Value} {ds : List (DataW H)} {before : List MemPlace} {tb : TypeId}
    (hl : laidOutB P = true) (hr : (f.params.toList.all fun t => P.readableRec t && decide (t < P.types.size)) = true) (hf : f.resultTypes = #[tb]) (htb : P.underlying tb = some .bool)
    (hW : DataW.Whole enc P f.params.toList s.vars false W args.toList ds [] before) (hv : s.vars = []) (hs : s.fn H (ds ++ []) = { results := [.lit (.bool true)], args := ds }) (hb : Below W.heap.size W W') :
    s.post enc P f false true false false W args (.bool true) W' := by
  have hW' := hW
  obtain ⟨p, q, hA, hV, rfl, _, _⟩ := hW
  rw [hv] at hV
  obtain ⟨_, rfl⟩ := ChangeShapes.trodVars_none hV
  refine ⟨ds, [], _, [] ++ [], p, [], hW', ?_, ?_, ?_, hb.frame _, fun h => by cases h⟩
  · rw [hs, hf]
    exact ChangeShapes.trodAll_mk1 (shut_bool htb true)
  · rw [hs]
    exact trodAll_below hl hb hr hA fun x hx => by simpa using hW'.lt x (by simp [hx])
  · rw [hs, hv]; rfl
end
end Go.Gv
/- What the arguments of this seat read as. Conditions: those named in each theorem. -/
namespace Go.Proofs.Yteockodnfempfaa
open Go Go.RowKit Go.Gv

theorem cz22 : Try.prog.cellsOf 22 = 1 := by kernel_rfl
theorem cz30 : Try.prog.cellsOf 30 = 35 := by kernel_rfl
theorem cz25 : Try.prog.cellsOf 25 = 2 := by kernel_rfl
theorem cz3 : Try.prog.cellsOf 3 = 1 := by kernel_rfl
def ok25 (_W : World) (x : GName) : Prop := FitI .i64 x.client ∧ FitI .i64 x.seq
theorem op25 (W : World) : Opens Try.prog W 25 GName (ok25 W) := fun H enc fuel cs x h => by
  obtain ⟨hl, n, hf⟩ := open_fieldT uu25 h
  rw [cz25] at hl
  obtain ⟨y0, h0⟩ := hf 0 3 0 (by rw [fl25]; rfl)
  obtain ⟨n0, e0, _, k0⟩ := DataW.trod_int uk3 h0
  rw [cz3] at e0
  have s0 : cs.drop 0 = [.int .i64 n0] ++ cs.drop 1 := by rw [← e0]; exact drop_split cs 0 1
  obtain ⟨y1, h1⟩ := hf 1 3 1 (by rw [fl25]; rfl)
  obtain ⟨n1, e1, _, k1⟩ := DataW.trod_int uk3 h1
  rw [cz3] at e1
  have s1 : cs.drop 1 = [.int .i64 n1] ++ cs.drop 2 := by rw [← e1]; exact drop_split cs 1 1
  have hz : cs.drop 2 = [] := List.drop_eq_nil_of_le (by omega)
  refine ⟨⟨n0, n1⟩, ?_, k0, k1⟩
  have hh : cs.drop 0 = [.int .i64 n0] ++ ([.int .i64 n1]) := by rw [s0, s1, hz, List.append_nil]
  exact hh
theorem cz27 : Try.prog.cellsOf 27 = 32 := by kernel_rfl
theorem op27 (W : World) : Opens Try.prog W 27 GHash (fun _ => True) := opens_hash (t8 := 5) (by kernel_rfl) (by kernel_rfl) (by kernel_rfl) (by kernel_rfl)
theorem cz28 : Try.prog.cellsOf 28 = 1 := by kernel_rfl
def ok30 (W : World) (x : GEntry) : Prop := ok25 W x.name ∧ True ∧ FitI .u64 x.time
theorem op30 (W : World) : Opens Try.prog W 30 GEntry (ok30 W) := fun H enc fuel cs x h => by
  obtain ⟨hl, n, hf⟩ := open_fieldT uu30 h
  rw [cz30] at hl
  obtain ⟨y0, h0⟩ := hf 0 25 0 (by rw [fl30]; rfl)
  obtain ⟨n0, e0, k0⟩ := op25 W H enc _ _ _ h0
  rw [cz25] at e0
  have s0 : cs.drop 0 = Enc.enc n0 ++ cs.drop 2 := by rw [← e0]; exact drop_split cs 0 2
  obtain ⟨y1, h1⟩ := hf 1 27 2 (by rw [fl30]; rfl)
  obtain ⟨n1, e1, k1⟩ := op27 W H enc _ _ _ h1
  rw [cz27] at e1
  have s1 : cs.drop 2 = Enc.enc n1 ++ cs.drop 34 := by rw [← e1]; exact drop_split cs 2 32
  obtain ⟨y2, h2⟩ := hf 2 28 34 (by rw [fl30]; rfl)
  obtain ⟨n2, e2, _, k2⟩ := DataW.trod_int uk28 h2
  rw [cz28] at e2
  have s2 : cs.drop 34 = [.int .u64 n2] ++ cs.drop 35 := by rw [← e2]; exact drop_split cs 34 1
  have hz : cs.drop 35 = [] := List.drop_eq_nil_of_le (by omega)
  refine ⟨⟨n0, n1, n2⟩, ?_, k0, k1, k2⟩
  have hh : cs.drop 0 = Enc.enc n0 ++ (Enc.enc n1 ++ ([.int .u64 n2])) := by rw [s0, s1, s2, hz, List.append_nil]
  exact hh
theorem op22 (W : World) : Opens Try.prog W 22 Hdr (SlOk W GEntry (ok30 W)) := opens_slice (e := 30) (by kernel_rfl) (cz30.trans rfl) (op30 W)
theorem cz39 : Try.prog.cellsOf 39 = 1 := by kernel_rfl
theorem op39 (W : World) : Opens Try.prog W 39 Hdr (SlOk W Hdr (SlOk W GEntry (ok30 W))) := opens_slice (e := 22) (by kernel_rfl) (cz22.trans rfl) (op22 W)
theorem cz36 : Try.prog.cellsOf 36 = 1 := by kernel_rfl
theorem op28 (W : World) : Opens Try.prog W 28 U64 (fun x => FitI .u64 x.v) := opens_u64 (by kernel_rfl)
theorem op36 (W : World) : Opens Try.prog W 36 Hdr (SlOk W U64 (fun x => FitI .u64 x.v)) := opens_slice (e := 28) (by kernel_rfl) (cz28.trans rfl) (op28 W)
theorem cz42 : Try.prog.cellsOf 42 = 1 := by kernel_rfl
theorem op42 (W : World) : Opens Try.prog W 42 Hdr (SlOk W Hdr (SlOk W U64 (fun x => FitI .u64 x.v))) := opens_slice (e := 36) (by kernel_rfl) (cz36.trans rfl) (op36 W)
theorem cz45 : Try.prog.cellsOf 45 = 1 := by kernel_rfl
theorem op3 (W : World) : Opens Try.prog W 3 I64 (fun x => FitI .i64 x.v) := opens_i64 (by kernel_rfl)
theorem op45 (W : World) : Opens Try.prog W 45 Hdr (SlOk W I64 (fun x => FitI .i64 x.v)) := opens_slice (e := 3) (by kernel_rfl) (cz3.trans rfl) (op3 W)
theorem cz41 : Try.prog.cellsOf 41 = 1 := by kernel_rfl
theorem op41 (W : World) : Opens Try.prog W 41 Hdr (SlOk W GName (ok25 W)) := opens_slice (e := 25) (by kernel_rfl) (cz25.trans rfl) (op25 W)
end Go.Proofs.Yteockodnfempfaa
/- Facts that the frames of all laws of this seat share. Conditions: none. -/
namespace Go.Proofs.Yteockodnfempfaa
open Go Go.RowKit Go.Gv
theorem ownK : ownKnob Try.prog.godebug = none := by kernel_rfl
theorem laidK : laidOutB Try.prog = true := by kernel_rfl
end Go.Proofs.Yteockodnfempfaa
/- What Within, Prefix, Same and Less compute. Conditions: those named in each theorem. -/
namespace Go.Proofs.Yteockodnfempfaa
open Go Go.RowKit Go.Gv

def within (v n : Int) : Int := if n < 1 then 0 else v % n

set_option maxHeartbeats 400000 in
theorem within_any (v n : Int) (w : World) (hn : n ≤ 9223372036854775807) (_hv : -9223372036854775808 ≤ v) (_hv2 : v ≤ 9223372036854775807) :
    Calls Try.prog 26 #[.int .i64 v, .int .i64 n] w fun e w' => e = .returned (.int .i64 (within v n)) ∧ w = w' := by
  by_cases h1 : n < 1
  · go_enter Try.func26, Try.ntmps26
    go_wp2
    go_ret
    exact ⟨ret_int (by unfold within; rw [if_pos h1]), rfl⟩
  · have h2 := tmod_lo (v := v) (n := n) (by omega)
    by_cases h3 : v.tmod n < 0
    · go_enter Try.func26, Try.ntmps26
      go_wp2
      go_ret
      exact ⟨ret_int (by unfold within; rw [if_neg (by omega)]; exact tmod_neg (by omega) h3), rfl⟩
    · go_enter Try.func26, Try.ntmps26
      go_wp2
      go_ret
      exact ⟨ret_int (by unfold within; rw [if_neg (by omega)]; exact tmod_pos (by omega) (by omega)), rfl⟩

def prefixB (a b : List GEntry) : Bool := decide (a.take (min a.length b.length) = b.take (min a.length b.length))
theorem take_eq_succ {α : Type} {xs ys : List α} {k : Nat} (h : xs.take k = ys.take k) (hx : k < xs.length) (hy : k < ys.length) : (xs.take (k+1) = ys.take (k+1)) ↔ xs[k] = ys[k] := by
  rw [List.take_succ_eq_append_getElem hx, List.take_succ_eq_append_getElem hy, h]
  constructor
  · intro e; simpa using List.append_cancel_left e
  · intro e; rw [e]
theorem prefixB_no {xs ys : List GEntry} {k : Nat} {x y : GEntry} (hx : xs[k]? = some x) (hy : ys[k]? = some y) (h : ¬ x = y) : prefixB xs ys = false := by
  unfold prefixB
  rw [decide_eq_false_iff_not]
  intro e
  have hk : k < xs.length := (List.getElem?_eq_some_iff.1 hx).1
  have hk' : k < ys.length := (List.getElem?_eq_some_iff.1 hy).1
  have e1 : (xs.take (min xs.length ys.length))[k]? = some x := by rw [List.getElem?_take_of_lt (by omega)]; exact hx
  have e2 : (ys.take (min xs.length ys.length))[k]? = some y := by rw [List.getElem?_take_of_lt (by omega)]; exact hy
  rw [e, e2] at e1
  injection e1 with e1; exact h e1.symm
theorem take_step {α : Type} {xs ys : List α} {k : Nat} {x y : α} (h : xs.take k = ys.take k) (hx : xs[k]? = some x) (hy : ys[k]? = some y) (e : x = y) : xs.take (k+1) = ys.take (k+1) := by
  have hk : k < xs.length := (List.getElem?_eq_some_iff.1 hx).1
  have hk' : k < ys.length := (List.getElem?_eq_some_iff.1 hy).1
  rw [take_eq_succ h hk hk']
  rw [List.getElem?_eq_getElem hk] at hx; rw [List.getElem?_eq_getElem hk'] at hy
  injection hx with hx; injection hy with hy; rw [hx, hy, e]
set_option maxHeartbeats 400000 in
theorem prefix_any (A B : Option Addr) (n m c d : Nat) (xs ys : List GEntry) (w : World) (B0 : Nat) (hx : Sl GEntry w B0 A n xs) (hy : Sl GEntry w B0 B m ys) (hn : n ≤ maxLen) (hm : m ≤ maxLen) :
    Calls Try.prog 23 #[.slice A n c, .slice B m d] w fun e w' => e = .returned (.bool (prefixB xs ys)) ∧ ∃ n, w' = w.drewN n := by
  unfold maxLen at hn hm
  have H := Lib.hid hx; have H2 := Lib.hid hy
  clear hx hy
  go_enter Try.func23, Try.ntmps23
  go_wp2
  go_loopw [5, 11] (fun _ i wr => ∃ k : Nat, k ≤ min n m ∧ i = .int .i64 k ∧ xs.take k = ys.take k ∧ ∃ q, wr = w.drewN q) (fun _ i _ => min n m - (intOf i).toNat)
  case atStart => exact ⟨0, by omega, rfl, by simp, 0, rfl⟩
  case round =>
    obtain ⟨k, hk, rfl, heq, q, rfl⟩ := hrel
    have HE := Lib.hid heq; clear heq
    by_cases hlt : k < min n m
    · obtain ⟨ad, x, rfl, _, hxk, hgx⟩ := H.out.at_ (k := k) (by omega)
      obtain ⟨bd, y, rfl, _, hyk, hgy⟩ := H2.out.at_ (k := k) (by omega)
      have HX := Lib.hid hxk; have HY := Lib.hid hyk; clear hxk hyk
      change get? GEntry w (ad.add (k * 35)) = some x at hgx
      change get? GEntry w (bd.add (k * 35)) = some y at hgy
      go_wp2
      go_quiet (fail)
      go_wp2
      · go_ret
        exact ⟨ret_bool (prefixB_no HX.out HY.out (nd_t ‹_›)).symm, drewN2 _ _ _⟩
      · go_roundw
        case rel => exact ⟨k + 1, by omega, by go_num, take_step HE.out HX.out HY.out (nd_f ‹_›), _, rfl⟩
        case measure => simp [intOf] <;> omega
    · go_wp2
      go_ret
      refine ⟨ret_bool ?_, q, rfl⟩
      unfold prefixB
      rw [H.out.1, H2.out.1, show min n m = k by omega, HE.out]; simp

/-- Two lists of entries, held against each other place by place. -/
def sameB {α : Type} [DecidableEq α] (a b : List α) : Bool := decide (a = b)
theorem sameB_no {α : Type} [DecidableEq α] {xs ys : List α} {k : Nat} {x y : α} (hx : xs[k]? = some x) (hy : ys[k]? = some y) (h : ¬ x = y) : sameB xs ys = false := by
  unfold sameB
  rw [decide_eq_false_iff_not]
  intro e; rw [e, hy] at hx; injection hx with hx; exact h hx.symm
set_option maxHeartbeats 400000 in
theorem sameEntry_any (A B : Option Addr) (n m c d : Nat) (xs ys : List GEntry) (w : World) (B0 : Nat) (hx : Sl GEntry w B0 A n xs) (hy : Sl GEntry w B0 B m ys) (hn : n ≤ maxLen) (hm : m ≤ maxLen) :
    Calls Try.prog 29 #[.slice A n c, .slice B m d] w fun e w' => e = .returned (.bool (sameB xs ys)) ∧ ∃ n, w' = w.drewN n := by
  unfold maxLen at hn hm
  have H := Lib.hid hx; have H2 := Lib.hid hy
  clear hx hy
  by_cases hne : n = m
  · obtain rfl : m = n := hne.symm
    clear hne
    go_enter Try.func29, Try.ntmps29
    go_wp2
    go_loopw [5] (fun i wr => ∃ k : Nat, k ≤ m ∧ i = .int .i64 k ∧ xs.take k = ys.take k ∧ ∃ q, wr = w.drewN q) (fun i _ => m - (intOf i).toNat)
    case atStart => exact ⟨0, by omega, rfl, by simp, 0, rfl⟩
    case round =>
      obtain ⟨k, hk, rfl, heq, q, rfl⟩ := hrel
      have HE := Lib.hid heq; clear heq
      by_cases hlt : k < m
      · obtain ⟨ad, x, rfl, _, hxk, hgx⟩ := H.out.at_ (k := k) (by omega)
        obtain ⟨bd, y, rfl, _, hyk, hgy⟩ := H2.out.at_ (k := k) (by omega)
        have HX := Lib.hid hxk; have HY := Lib.hid hyk; clear hxk hyk
        change get? GEntry w (ad.add (k * 35)) = some x at hgx
        change get? GEntry w (bd.add (k * 35)) = some y at hgy
        go_wp2
        go_quiet (fail)
        go_wp2
        · go_ret
          exact ⟨ret_bool (sameB_no HX.out HY.out (nd_t ‹_›)).symm, drewN2 _ _ _⟩
        · go_roundw
          case rel => exact ⟨k + 1, by omega, by go_num, take_step HE.out HX.out HY.out (nd_f ‹_›), _, rfl⟩
          case measure => simp [intOf] <;> omega
      · go_wp2
        go_ret
        refine ⟨ret_bool ?_, q, rfl⟩
        unfold sameB
        have e := HE.out
        rw [List.take_of_length_le (by have := H.out.1; omega), List.take_of_length_le (by have := H2.out.1; omega)] at e
        rw [e]; simp
  · have hb : ((n : Int) != (m : Int)) = true := by rw [bne_iff_ne]; omega
    go_enter Try.func29, Try.ntmps29
    go_wp2
    go_ret
    refine ⟨ret_bool ?_, 0, rfl⟩
    unfold sameB
    symm; rw [decide_eq_false_iff_not]
    intro e; have h1 := H.out.1; have h2 := H2.out.1; rw [e] at h1; omega

def lessB (a b : GName) : Bool := decide (a.client < b.client) || (decide (a.client = b.client) && decide (a.seq < b.seq))

set_option maxHeartbeats 400000 in
theorem less_any (a b : GName) (w : World) :
    Calls Try.prog 30 #[a.val, b.val] w fun e w' => e = .returned (.bool (lessB a b)) ∧ Below w.heap.size w w' := by
  have fin : Below w.heap.size w ((w.alloc (.cells a.enc.toArray 25)).alloc (.cells b.enc.toArray 25)) := ((Below.refl _ _).alloc (Nat.le_refl _) _).alloc (by simp) _
  have F := Lib.hid fin; clear fin
  by_cases h1 : a.client < b.client
  · go_enter Try.func30, Try.ntmps30
    go_wp2
    go_ret
    exact ⟨ret_bool (by simp [lessB, h1]), F.out⟩
  · by_cases h2 : a.client = b.client
    · have h3 : (a.client == b.client) = true := by simp [h2]
      have H2 := Lib.hid h2; clear h2
      go_enter Try.func30, Try.ntmps30
      go_wp2
      go_ret
      exact ⟨ret_bool (by simp [lessB, H2.out]), F.out⟩
    · have h3 : (a.client == b.client) = false := by simp [h2]
      go_enter Try.func30, Try.ntmps30
      go_wp2
      go_ret
      exact ⟨ret_bool (by simp [lessB, h2]; omega), F.out⟩

end Go.Proofs.Yteockodnfempfaa
/- What audit.Once computes. Conditions: those named in each theorem. -/
namespace Go.Proofs.Yteockodnfempfaa
open Go Go.RowKit Go.Gv

def onceB (xs : List GEntry) : Bool := decide ((xs.map (·.name)).Nodup)

theorem nodup_step {α : Type} {xs : List α} {k : Nat} {x : α} (hx : xs[k]? = some x) : xs.take (k + 1) = xs.take k ++ [x] := by
  have hk : k < xs.length := (List.getElem?_eq_some_iff.1 hx).1
  rw [List.take_succ_eq_append_getElem hk]
  rw [List.getElem?_eq_getElem hk] at hx
  injection hx with hx; rw [hx]

structure OnceInv (xs : List GEntry) (k : Nat) (m : List (GName × Bool)) : Prop where
  look : ∀ n, (mget m n).getD false = decide (n ∈ (xs.take k).map (·.name))
  nd : ((xs.take k).map (·.name)).Nodup
theorem OnceInv.step {xs : List GEntry} {k : Nat} {m : List (GName × Bool)} (h : OnceInv xs k m) {x : GEntry} (hx : xs[k]? = some x) (hn : (mget m x.name).getD false = false) : OnceInv xs (k + 1) (mset m x.name true) := by
  have hn' : x.name ∉ (xs.take k).map (·.name) := by have := h.look x.name; rw [hn] at this; simpa using this.symm
  constructor
  · intro n
    rw [nodup_step hx]
    by_cases he : n = x.name
    · subst he; rw [mget_mset_same]; simp
    · rw [mget_mset_other m true he, h.look n]
      simp [he]
  · rw [nodup_step hx, List.map_append, List.nodup_append]
    refine ⟨h.nd, by simp, ?_⟩
    intro a ha b hb
    simp at hb; subst hb
    intro e; subst e; exact hn' ha
theorem OnceInv.bad {xs : List GEntry} {k : Nat} {m : List (GName × Bool)} (h : OnceInv xs k m) {x : GEntry} (hx : xs[k]? = some x) (hn : (mget m x.name).getD false = true) : onceB xs = false := by
  have hn' : x.name ∈ (xs.take k).map (·.name) := by have := h.look x.name; rw [hn] at this; simpa using this.symm
  unfold onceB
  rw [decide_eq_false_iff_not]
  intro hd
  have h2 : ((xs.take (k + 1)).map (·.name)).Nodup := List.Nodup.sublist ((List.take_sublist _ _).map _) hd
  rw [nodup_step hx, List.map_append, List.nodup_append] at h2
  exact h2.2.2 _ hn' x.name (by simp) rfl

set_option maxHeartbeats 400000 in
theorem once_any (A : Option Addr) (n c : Nat) (xs : List GEntry) (w : World) (hx : Sl GEntry w w.heap.size A n xs) (hn : n ≤ maxLen) :
    Calls Try.prog 31 #[.slice A n c] w fun e w' => e = .returned (.bool (onceB xs)) ∧ Below w.heap.size w w' := by
  unfold maxLen at hn
  have H := Lib.hid hx; clear hx
  have hmm := @run_makeMap Try.prog
  go_enter Try.func31, Try.ntmps31
  go_wp2
  go_loopw [9] (fun i wr => ∃ (k : Nat) (m : List (GName × Bool)), k ≤ n ∧ i = .int .i64 k ∧ mapAt GName Bool wr w.heap.size = some m ∧ OnceInv xs k m ∧ Below w.heap.size w wr ∧ w.heap.size < wr.heap.size) (fun i _ => n - (intOf i).toNat)
  case atStart => exact ⟨0, [], by omega, rfl, mapAt_new _ _ _, ⟨by intro n; simp [mget_nil], by simp⟩, (Below.refl _ _).alloc (Nat.le_refl _) _, by simp⟩
  case round =>
    obtain ⟨k, m, hk, rfl, hm, hinv, hb, hsz⟩ := hrel
    have HI := Lib.hid hinv; clear hinv
    have HB := Lib.hid hb; clear hb
    by_cases hlt : k < n
    · obtain ⟨ad, x, rfl, hab, hxk, hgx⟩ := (H.out.below HB.out).at_ (k := k) (by omega)
      have HX := Lib.hid hxk; clear hxk
      change get? GEntry wr (ad.add (k * 35)) = some x at hgx
      have hlen := mapAt_lt hm
      cases hn : (mget m x.name).getD false
      · have hm2 := mapAt_alloc (.cells (GEntry.enc x).toArray 30) hm
        have hp := Lib.hid (mapAt_mput kl25 um110 hm2 x.name true)
        have hg := Lib.hid (mput_grown kl25 um110 hm2 x.name true)
        have hs := Lib.hid (mput_size kl25 um110 hm2 x.name true)
        go_wp2
        go_roundw
        case rel => exact ⟨k + 1, _, by omega, by go_num, hp.out, HI.out.step HX.out hn, (HB.out.alloc HB.out.size _).grown hg.out (by simp; omega) (fun j hj => by cases hj; exact Nat.le_refl _), by rw [hs.out]; simp; omega⟩
        case measure => simp [intOf] <;> omega
      · go_wp2
        go_ret
        exact ⟨ret_bool (HI.out.bad HX.out hn).symm, HB.out.alloc HB.out.size _⟩
    · go_wp2
      go_ret
      refine ⟨ret_bool ?_, HB.out⟩
      have h2 := HI.out.nd
      rw [List.take_of_length_le (by have := H.out.1; omega)] at h2
      simp [onceB, h2]

end Go.Proofs.Yteockodnfempfaa
/- What the two functions below compute. Conditions: those named in each theorem. -/
namespace Go.Proofs.Yteockodnfempfaa
open Go Go.RowKit Go.Gv

theorem getU {w : World} {a : Addr} {x : U64} (h : get? U64 w a = some x) : w.cell? a = some (.int .u64 x.v) := get1 rfl h
theorem getI {w : World} {a : Addr} {x : I64} (h : get? I64 w a = some x) : w.cell? a = some (.int .i64 x.v) := get1 rfl h

/-- All of a below all of b. -/
def allBelow (a b : List U64) : Bool := decide (∀ x ∈ a, ∀ y ∈ b, x.v < y.v)
def belowB (a b : List U64) : Bool := allBelow a b && (decide (0 < a.length) && decide (0 < b.length))
theorem allBelow_no {a b : List U64} {i j : Nat} {x y : U64} (hx : a[i]? = some x) (hy : b[j]? = some y) (h : y.v ≤ x.v) : allBelow a b = false := by
  unfold allBelow
  rw [decide_eq_false_iff_not]
  intro hall
  have := hall x (List.mem_of_getElem? hx) y (List.mem_of_getElem? hy)
  omega
theorem mem_take_succ {α : Type} {xs : List α} {k : Nat} {x y : α} (hx : xs[k]? = some x) (h : y ∈ xs.take (k + 1)) : y ∈ xs.take k ∨ y = x := by
  rw [nodup_step hx] at h; simpa using h

set_option maxHeartbeats 400000 in
theorem below_any (A B : Option Addr) (n m c d : Nat) (xs ys : List U64) (w : World) (B0 : Nat) (hx : Sl U64 w B0 A n xs) (hy : Sl U64 w B0 B m ys) (hn : n ≤ maxLen) (hm : m ≤ maxLen) :
    Calls Try.prog 68 #[.slice A n c, .slice B m d] w fun e w' => e = .returned (.bool (belowB xs ys)) ∧ w = w' := by
  unfold maxLen at hn hm
  have H := Lib.hid hx; have H2 := Lib.hid hy
  clear hx hy
  go_enter Try.func68, Try.ntmps68
  go_wp2
  go_loop [6, 11] (fun _ i => ∃ k : Nat, k ≤ n ∧ i = .int .i64 k ∧ ∀ x ∈ xs.take k, ∀ y ∈ ys, x.v < y.v) (fun _ i => n - (intOf i).toNat)
  case atStart => exact ⟨0, by omega, rfl, by simp⟩
  case round =>
    obtain ⟨k, hk, rfl, hall⟩ := hrel
    have HA := Lib.hid hall; clear hall
    by_cases hlt : k < n
    · obtain ⟨ad, x, rfl, _, hxk, hgx⟩ := H.out.at_ (k := k) (by omega)
      have HX := Lib.hid hxk; clear hxk
      have hc := getU hgx; clear hgx
      simp only [show Enc.n U64 = 1 from rfl, Nat.mul_one] at hc
      go_wp2
      go_loop [8, 17] (fun _ i => ∃ j : Nat, j ≤ m ∧ i = .int .i64 j ∧ ∀ y ∈ ys.take j, x.v < y.v) (fun _ i => m - (intOf i).toNat)
      case atStart => exact ⟨0, by omega, rfl, by simp⟩
      case round =>
        obtain ⟨j, hj, rfl, hall2⟩ := hrel
        have HA2 := Lib.hid hall2; clear hall2
        by_cases hlt2 : j < m
        · obtain ⟨bd, y, rfl, _, hyk, hgy⟩ := H2.out.at_ (k := j) (by omega)
          have HY := Lib.hid hyk; clear hyk
          have hc2 := getU hgy; clear hgy
          simp only [show Enc.n U64 = 1 from rfl, Nat.mul_one] at hc2
          by_cases hge : y.v ≤ x.v
          · go_wp2
            go_ret
            exact ⟨ret_bool (by unfold belowB; rw [allBelow_no HX.out HY.out hge]; rfl), rfl⟩
          · go_wp2
            go_round
            case rel =>
              refine ⟨j + 1, by omega, by go_num, fun z hz => ?_⟩
              rcases mem_take_succ HY.out hz with h | h
              · exact HA2.out z h
              · subst h; omega
            case measure => simp [intOf] <;> omega
        · go_wp2
          go_round
          case rel =>
            refine ⟨k + 1, by omega, by go_num, fun z hz y hy => ?_⟩
            rcases mem_take_succ HX.out hz with h | h
            · exact HA.out z h y hy
            · subst h; exact HA2.out y (by rw [List.take_of_length_le (by have := H2.out.1; omega)]; exact hy)
          case measure => simp [intOf] <;> omega
    · have h1 := H.out.1
      have h2 := H2.out.1
      have hA : allBelow xs ys = true := by
        unfold allBelow
        rw [decide_eq_true_eq]
        intro x hx
        exact HA.out x (by rw [List.take_of_length_le (by omega)]; exact hx)
      have HA' := Lib.hid hA; clear hA h1 h2
      by_cases h0 : 0 < n <;> by_cases h00 : 0 < m
      all_goals
        go_wp2
        go_ret
        refine ⟨ret_bool ?_, rfl⟩
        unfold belowB
        rw [HA'.out, H.out.1, H2.out.1]
        simp [h0, h00]

set_option maxHeartbeats 400000 in
theorem lawBelow_any (A B : Option Addr) (n m c d : Nat) (xs ys : List U64) (w : World) (B0 : Nat) (hx : Sl U64 w B0 A n xs) (hy : Sl U64 w B0 B m ys) (hn : n ≤ maxLen) (hm : m ≤ maxLen) :
    Calls Try.prog 28 #[.slice A n c, .slice B m d] w fun e w' => e = .returned (.bool (allBelow xs ys)) ∧ ∃ q, w' = w.drewN q := by
  unfold maxLen at hn hm
  have H := Lib.hid hx; have H2 := Lib.hid hy
  clear hx hy
  go_enter Try.func28, Try.ntmps28
  go_wp2
  go_loopw [5, 9] (fun _ i wr => ∃ k : Nat, k ≤ n ∧ i = .int .i64 k ∧ (∀ x ∈ xs.take k, ∀ y ∈ ys, x.v < y.v) ∧ ∃ q, wr = w.drewN q) (fun _ i _ => n - (intOf i).toNat)
  case atStart => exact ⟨0, by omega, rfl, by simp, 0, rfl⟩
  case round =>
    obtain ⟨k, hk, rfl, hall, q, rfl⟩ := hrel
    have HA := Lib.hid hall; clear hall
    by_cases hlt : k < n
    · obtain ⟨ad, x, rfl, _, hxk, hgx⟩ := H.out.at_ (k := k) (by omega)
      have HX := Lib.hid hxk; clear hxk
      have hc := getU hgx; clear hgx
      simp only [show Enc.n U64 = 1 from rfl, Nat.mul_one] at hc
      go_wp2
      go_loopw [6, 14] (fun _ i wr => ∃ j : Nat, j ≤ m ∧ i = .int .i64 j ∧ (∀ y ∈ ys.take j, x.v < y.v) ∧ ∃ q, wr = w.drewN q) (fun _ i _ => m - (intOf i).toNat)
      case atStart => exact ⟨0, by omega, rfl, by simp, q, rfl⟩
      case round =>
        obtain ⟨j, hj, rfl, hall2, q2, rfl⟩ := hrel
        have HA2 := Lib.hid hall2; clear hall2
        by_cases hlt2 : j < m
        · obtain ⟨bd, y, rfl, _, hyk, hgy⟩ := H2.out.at_ (k := j) (by omega)
          have HY := Lib.hid hyk; clear hyk
          have hc2 := getU hgy; clear hgy
          simp only [show Enc.n U64 = 1 from rfl, Nat.mul_one] at hc2
          by_cases hge : y.v ≤ x.v
          · go_wp2
            go_quiet (fail)
            go_wp2
            go_ret
            exact ⟨ret_bool (allBelow_no HX.out HY.out hge).symm, drewN2 _ _ _⟩
          · go_wp2
            go_quiet (fail)
            go_wp2
            go_roundw
            case rel =>
              refine ⟨j + 1, by omega, by go_num, fun z hz => ?_, _, rfl⟩
              rcases mem_take_succ HY.out hz with h | h
              · exact HA2.out z h
              · subst h; omega
            case measure => simp [intOf] <;> omega
        · go_wp2
          go_roundw
          case rel =>
            refine ⟨k + 1, by omega, by go_num, fun z hz y hy => ?_, q2, rfl⟩
            rcases mem_take_succ HX.out hz with h | h
            · exact HA.out z h y hy
            · subst h; exact HA2.out y (by rw [List.take_of_length_le (by have := H2.out.1; omega)]; exact hy)
          case measure => simp [intOf] <;> omega
    · go_wp2
      go_ret
      refine ⟨ret_bool ?_, q, rfl⟩
      unfold allBelow
      symm; rw [decide_eq_true_eq]
      intro x hx
      exact HA.out x (by rw [List.take_of_length_le (by have := H.out.1; omega)]; exact hx)

end Go.Proofs.Yteockodnfempfaa
/- What cmp.Compare, cmp.Or and lock.Before compute. Conditions: those named in each theorem. -/
namespace Go.Proofs.Yteockodnfempfaa
open Go Go.RowKit Go.Gv

def cmpI (a b : Int) : Int := if a < b then -1 else if b < a then 1 else 0
set_option maxHeartbeats 400000 in
theorem compare_any (a b : Int) (w : World) :
    Calls Try.prog 108 #[.int .i64 a, .int .i64 b] w fun e w' => e = .returned (.int .i64 (cmpI a b)) ∧ w = w' := by
  by_cases h1 : a < b
  · go_enter Try.func108, Try.ntmps108
    go_wp2
    go_ret
    exact ⟨ret_int (by unfold cmpI; rw [if_pos h1]), rfl⟩
  · by_cases h2 : b < a
    · go_enter Try.func108, Try.ntmps108
      go_wp2
      go_ret
      exact ⟨ret_int (by unfold cmpI; rw [if_neg (by omega), if_pos h2]), rfl⟩
    · go_enter Try.func108, Try.ntmps108
      go_wp2
      go_ret
      exact ⟨ret_int (by unfold cmpI; rw [if_neg (by omega), if_neg (by omega)]), rfl⟩

def orI (xs : List Int) : Int := (xs.find? fun x => x != 0).getD 0
set_option maxHeartbeats 400000 in
theorem or_any (A : Option Addr) (n c : Nat) (xs : List I64) (w : World) (B0 : Nat) (hx : Sl I64 w B0 A n xs) (hn : n ≤ maxLen) :
    Calls Try.prog 77 #[.slice A n c] w fun e w' => e = .returned (.int .i64 (orI (xs.map (·.v)))) ∧ w = w' := by
  unfold maxLen at hn
  have H := Lib.hid hx
  clear hx
  go_enter Try.func77, Try.ntmps77
  go_wp2
  go_loop [5, 8] (fun _ i => ∃ k : Nat, k ≤ n ∧ i = .int .i64 k ∧ ∀ x ∈ xs.take k, x.v = 0) (fun _ i => n - (intOf i).toNat)
  case atStart => exact ⟨0, by omega, rfl, by simp⟩
  case round =>
    obtain ⟨k, hk, rfl, hall⟩ := hrel
    have HA := Lib.hid hall; clear hall
    by_cases hlt : k < n
    · obtain ⟨ad, x, rfl, _, hxk, hgx⟩ := H.out.at_ (k := k) (by omega)
      have HX := Lib.hid hxk; clear hxk
      have hc := getI hgx; clear hgx
      simp only [show Enc.n I64 = 1 from rfl, Nat.mul_one] at hc
      by_cases h0 : x.v = 0
      · have hb : (x.v != 0) = false := by simp [h0]
        have H0 := Lib.hid h0; clear h0
        go_wp2
        go_round
        case rel =>
          refine ⟨k + 1, by omega, by go_num, fun z hz => ?_⟩
          rcases mem_take_succ HX.out hz with h | h
          · exact HA.out z h
          · subst h; exact H0.out
        case measure => simp [intOf] <;> omega
      · have hb : (x.v != 0) = true := by simp [h0]
        go_wp2
        go_ret
        refine ⟨ret_int ?_, rfl⟩
        have hs : xs = xs.take k ++ x :: xs.drop (k + 1) := by
          have hl : k < xs.length := (List.getElem?_eq_some_iff.1 HX.out).1
          have hxx : xs[k] = x := (List.getElem?_eq_some_iff.1 HX.out).2
          rw [← hxx, List.getElem_cons_drop, List.take_append_drop]
        unfold orI
        rw [hs, List.map_append, List.find?_append, List.find?_eq_none.2 (by
          intro y hy
          obtain ⟨z, hz, rfl⟩ := List.mem_map.1 hy
          simp [HA.out z hz])]
        simp [hb]
    · go_wp2
      go_ret
      refine ⟨ret_int ?_, rfl⟩
      unfold orI
      rw [List.find?_eq_none.2 (by
          intro y hy
          obtain ⟨z, hz, rfl⟩ := List.mem_map.1 hy
          simp [HA.out z (by rw [List.take_of_length_le (by have := H.out.1; omega)]; exact hz)])]
      rfl

def beforeI (a b : GName) : Int := orI [cmpI a.client b.client, cmpI a.seq b.seq]
set_option maxRecDepth 100000 in
set_option maxHeartbeats 400000 in
theorem before_any (a b : GName) (w : World) :
    Calls Try.prog 69 #[a.val, b.val] w fun e w' => e = .returned (.int .i64 (beforeI a b)) ∧ Below w.heap.size w w' := by
  go_enter Try.func69, Try.ntmps69
  go_wp2
  refine wp_region_tail 10 (by kernel_rfl) (by kernel_rfl) ?_
  simp only [List.take_succ_cons, List.take_zero, List.drop_succ_cons, List.drop_zero]
  repeat still_step
  still_call (flipC (compare_any _ _ _))
  repeat still_step
  still_call (flipC (compare_any _ _ _))
  refine wpStill_nil ?_
  go_wp2_with fail
  refine (or_any _ _ _ [⟨cmpI a.client b.client⟩, ⟨cmpI a.seq b.seq⟩] _ (w.heap.size + 1 + 1 + 1) ?_ (by decide)).mono ?_
  · exact Sl.drew_ (Sl.new_ rfl rfl (by simp only [World.size_alloc]) (by omega))
  · rintro e w' ⟨rfl, rfl⟩
    go_wp2
    go_ret
    exact ⟨ret_int rfl, ((((Below.refl _ _).alloc (Nat.le_refl _) _).alloc (by simp) _).alloc (by simp only [World.size_alloc]; omega) _).drew⟩

end Go.Proofs.Yteockodnfempfaa
/- What audit.Rising computes. Conditions: those named in each theorem. -/
namespace Go.Proofs.Yteockodnfempfaa
open Go Go.RowKit Go.Gv

/-- Does b stand rightly behind a? -/
def riseB (a b : GEntry) : Bool := decide (a.time < b.time) || (decide (b.time = a.time) && decide (beforeI a.name b.name < 0))
def risingB : List GEntry → Bool
  | a :: b :: r => riseB a b && risingB (b :: r)
  | _ => true
theorem risingB_iff : ∀ (xs : List GEntry), risingB xs = true ↔ ∀ k a b, xs[k]? = some a → xs[k + 1]? = some b → riseB a b = true
  | [] => by simp [risingB]
  | [x] => by simp [risingB]
  | x :: y :: r => by
    simp only [risingB, Bool.and_eq_true, risingB_iff (y :: r)]
    constructor
    · rintro ⟨h1, h2⟩ k a b ha hb
      cases k with
      | zero => simp at ha hb; subst ha; subst hb; exact h1
      | succ k => exact h2 k a b (by simpa using ha) (by simpa using hb)
    · intro h
      exact ⟨h 0 x y rfl rfl, fun k a b ha hb => h (k + 1) a b (by simpa using ha) (by simpa using hb)⟩

set_option maxHeartbeats 400000 in
theorem rising_any (A : Option Addr) (n c : Nat) (xs : List GEntry) (w : World) (hx : Sl GEntry w w.heap.size A n xs) (hn : n ≤ maxLen) :
    Calls Try.prog 32 #[.slice A n c] w fun e w' => e = .returned (.bool (risingB xs)) ∧ Below w.heap.size w w' := by
  unfold maxLen at hn
  have H := Lib.hid hx; clear hx
  go_enter Try.func32, Try.ntmps32
  go_wp2
  go_loopw [3] (fun i wr => ∃ (k : Nat), 1 ≤ k ∧ (k ≤ n ∨ k = 1) ∧ i = .int .i64 k ∧ (∀ j a b, j + 1 < k → xs[j]? = some a → xs[j + 1]? = some b → riseB a b = true) ∧ Below w.heap.size w wr) (fun i _ => n - (intOf i).toNat)
  case atStart => exact ⟨1, by omega, by omega, rfl, by intro j a b hj; omega, Below.refl _ _⟩
  case round =>
    obtain ⟨k, hk1, hk, rfl, hall, hb⟩ := hrel
    have HA := Lib.hid hall; clear hall
    have HB := Lib.hid hb; clear hb
    by_cases hlt : k < n
    · obtain ⟨ad, x, rfl, hab, hxk, hgx⟩ := (H.out.below HB.out).at_ (k := k - 1) (by omega)
      obtain ⟨ad', y, hadd, _, hyk, hgy⟩ := (H.out.below HB.out).at_ (k := k) (by omega)
      obtain rfl : ad = ad' := by injection hadd
      have HX := Lib.hid hxk; have HY := Lib.hid hyk; clear hxk hyk hadd
      change get? GEntry wr (ad.add ((k - 1) * 35)) = some x at hgx
      change get? GEntry wr (ad.add (k * 35)) = some y at hgy
      obtain ⟨j, rfl⟩ : ∃ j, k = j + 1 := ⟨k - 1, by omega⟩
      simp only [Nat.add_sub_cancel] at hgx
      have hab1 : ad.block < wr.heap.size := by have := HB.out.size; omega
      have hab2 : ad.block < wr.heap.size + 1 := by omega
      have hw1 := wrap_nat (j := j) (by omega)
      have hj1 : (j : Int) < (n : Int) := by omega
      have hw2 : ∀ (o1 o2 : Obj), Below w.heap.size w ((wr.alloc o1).alloc o2).drew := fun o1 o2 => ((HB.out.alloc HB.out.size o1).alloc (by have := HB.out.size; simp; omega) o2).drew
      have HW := Lib.hid hw2; clear hw2
      have hstep : riseB x y = true → ∀ i a b, i + 1 < j + 1 + 1 → xs[i]? = some a → xs[i + 1]? = some b → riseB a b = true := by
        intro hr i a b hi ha hb
        by_cases he : i = j
        · subst he
          rw [show i + 1 - 1 = i by omega] at HX
          have e1 := HX.out; have e2 := HY.out
          rw [e1] at ha; rw [e2] at hb
          injection ha with ha; injection hb with hb; subst ha; subst hb; exact hr
        · exact HA.out i a b (by omega) ha hb
      have hbad : riseB x y = false → risingB xs = false := by
        intro hr
        cases hq : risingB xs with
        | false => rfl
        | true =>
          have := (risingB_iff xs).1 hq j x y (by have := HX.out; rwa [show j + 1 - 1 = j by omega] at this) HY.out
          rw [hr] at this; cases this
      have HS := Lib.hid hstep; have HN := Lib.hid hbad; clear hstep hbad
      by_cases h1 : y.time < x.time
      · have hr : riseB x y = false := by simp [riseB]; omega
        have HR := Lib.hid hr; clear hr
        go_wp2
        go_region
        all_goals
          go_wp2
          go_ret
          exact ⟨ret_bool (HN.out HR.out).symm, HW.out _ _⟩
      · by_cases h2 : y.time = x.time
        · have h2b : (y.time == x.time) = true := by simp [h2]
          have H2 := Lib.hid h2; clear h2
          by_cases h3 : 0 ≤ beforeI x.name y.name
          · have hr : riseB x y = false := by simp [riseB, H2.out]; omega
            have HR := Lib.hid hr; clear hr
            go_wp2
            go_region
            all_goals
              go_wp2_with fail
              refine (before_any _ _ _).mono ?_
              rintro e w' ⟨rfl, hb'⟩
              have HB' := Lib.hid hb'; clear hb'
              go_wp2
              go_ret
              exact ⟨ret_bool (HN.out HR.out).symm, (HW.out _ _).trans (HB'.out.mono (HW.out _ _).size)⟩
          · have hr : riseB x y = true := by simp [riseB, H2.out]; omega
            have HR := Lib.hid hr; clear hr
            go_wp2
            go_region
            all_goals
              go_wp2_with fail
              refine (before_any _ _ _).mono ?_
              rintro e w' ⟨rfl, hb'⟩
              have HB' := Lib.hid hb'; clear hb'
              go_wp2
              go_roundw
              case rel => exact ⟨j + 1 + 1, by omega, by omega, by go_num, HS.out HR.out, (HW.out _ _).trans (HB'.out.mono (HW.out _ _).size)⟩
              case measure => simp [intOf] <;> omega
        · have h2b : (y.time == x.time) = false := by simp [h2]
          have hr : riseB x y = true := by simp [riseB]; omega
          have HR := Lib.hid hr; clear hr
          go_wp2
          go_region
          all_goals
            go_wp2
            go_roundw
            case rel => exact ⟨j + 1 + 1, by omega, by omega, by go_num, HS.out HR.out, HW.out _ _⟩
            case measure => simp [intOf] <;> omega
    · go_wp2
      go_ret
      refine ⟨ret_bool ?_, HB.out⟩
      symm
      rw [risingB_iff]
      intro i a b ha hb
      refine HA.out i a b ?_ ha hb
      have := (List.getElem?_eq_some_iff.1 hb).1
      have := H.out.1
      omega

end Go.Proofs.Yteockodnfempfaa
/- What audit.Fair computes. Conditions: those named in each theorem. -/
namespace Go.Proofs.Yteockodnfempfaa
open Go Go.RowKit Go.Gv

/-- A slice of slices of entries reads as a list of lists. -/
def LogsIs (w : World) (B : Nat) (A : Option Addr) (n : Nat) (ls : List (List GEntry)) : Prop :=
  ∃ hs : List Hdr, Sl Hdr w B A n hs ∧ hs.length = ls.length ∧ ∀ (i : Nat) (h : Hdr) (l : List GEntry), hs[i]? = some h → ls[i]? = some l → Sl GEntry w B h.a h.len l ∧ h.len ≤ h.cap ∧ h.cap ≤ maxLen
theorem LogsIs.len {w : World} {B : Nat} {A : Option Addr} {n : Nat} {ls : List (List GEntry)} (h : LogsIs w B A n ls) : ls.length = n := by
  obtain ⟨hs, h1, h2, _⟩ := h; rw [← h2]; exact h1.1
theorem LogsIs.below {w w' : World} {B : Nat} {A : Option Addr} {n : Nat} {ls : List (List GEntry)} (h : LogsIs w B A n ls) (hb : Below B w w') : LogsIs w' B A n ls := by
  obtain ⟨hs, h1, h2, h3⟩ := h
  exact ⟨hs, h1.below hb, h2, fun i h l a b => ⟨(h3 i h l a b).1.below hb, (h3 i h l a b).2⟩⟩
theorem LogsIs.at_ {w : World} {B : Nat} {A : Option Addr} {n : Nat} {ls : List (List GEntry)} (h : LogsIs w B A n ls) {k : Nat} (hk : k < n) :
    ∃ (ad : Addr) (A2 : Option Addr) (n2 c2 : Nat) (l : List GEntry), A = some ad ∧ ad.block < B ∧ ls[k]? = some l ∧ w.cell? (ad.add k) = some (.slice A2 n2 c2) ∧ Sl GEntry w B A2 n2 l ∧ n2 ≤ c2 ∧ c2 ≤ maxLen := by
  obtain ⟨hs, h1, h2, h3⟩ := h
  obtain ⟨ad, hd, e, hb, hx, hg⟩ := h1.at_ hk
  have hl : k < ls.length := by rw [← h2]; rw [h1.1]; exact hk
  have hls : ls[k]? = some ls[k] := List.getElem?_eq_getElem hl
  have hc := get1 (v := Hdr.val hd) rfl hg
  simp only [show Enc.n Hdr = 1 from rfl, Nat.mul_one] at hc
  exact ⟨ad, hd.a, hd.len, hd.cap, ls[k], e, hb, hls, hc, h3 k hd _ hx hls⟩

/-- A map's value reads as a list of times for each name. -/
def StampsIs (w : World) (B : Nat) (mv : Value) (sh : GName → Hdr) (st : GName → List U64) : Prop :=
  (∀ W, Below B w W → ∀ k, (gLookup 37 mv (GName.val k) false).run Try.prog W = .ok (Hdr.val (sh k)) W) ∧ ∀ k, Sl U64 w B (sh k).a (sh k).len (st k) ∧ (sh k).len ≤ maxLen

theorem stampsNil (w : World) (B : Nat) : StampsIs w B (.map none) (fun _ => default) (fun _ => []) :=
  ⟨fun W _ k => by rw [ln_37], fun _ => ⟨Sl.nil, Nat.zero_le _⟩⟩
theorem stampsMap {w : World} {B r : Nat} {m : List (GName × Hdr)} {st : GName → List U64} (hm : mapAt GName Hdr w r = some m) (hr : r < B)
    (h : ∀ k, Sl U64 w B ((mget m k).getD default).a ((mget m k).getD default).len (st k) ∧ ((mget m k).getD default).len ≤ maxLen) : StampsIs w B (.map (some r)) (fun k => (mget m k).getD default) st :=
  ⟨fun W hW k => by rw [lk_37, mapAt_below hW hr, hm]; rfl, h⟩

def fairB (ls : List (List GEntry)) (st : GName → List U64) : Bool :=
  ls.all fun l => (List.range l.length).all fun i => (List.range i).all fun j => !belowB (st (l.getD i default).name) (st (l.getD j default).name)
theorem getD_of {α : Type} {l : List α} {i : Nat} {x d : α} (h : l[i]? = some x) : l.getD i d = x := by simp [List.getD, h]
theorem fairB_iff (ls : List (List GEntry)) (st : GName → List U64) : fairB ls st = true ↔ ∀ l ∈ ls, ∀ (i j : Nat) (b a : GEntry), l[i]? = some b → l[j]? = some a → j < i → belowB (st b.name) (st a.name) = false := by
  unfold fairB
  simp only [List.all_eq_true, List.mem_range, Bool.not_eq_true']
  constructor
  · intro h l hl i j b a hi hj hji
    have := h l hl i (List.getElem?_eq_some_iff.1 hi).1 j hji
    rwa [getD_of hi, getD_of hj] at this
  · intro h l hl i hi j hji
    have hi' : l[i]? = some l[i] := List.getElem?_eq_getElem hi
    have hj' : l[j]? = some (l[j]'(by omega)) := List.getElem?_eq_getElem _
    rw [getD_of hi', getD_of hj']
    exact h l hl i j _ _ hi' hj' hji
theorem fairB_no {ls : List (List GEntry)} {st : GName → List U64} {l : List GEntry} {k i j : Nat} {a b : GEntry} (hl : ls[k]? = some l) (hi : l[i]? = some b) (hj : l[j]? = some a) (hji : j < i) (h : belowB (st b.name) (st a.name) = true) : fairB ls st = false := by
  cases hq : fairB ls st with
  | false => rfl
  | true =>
    have := (fairB_iff ls st).1 hq l (List.mem_of_getElem? hl) i j b a hi hj hji
    rw [h] at this; cases this

theorem below_is (r : Bool) (A B : Option Addr) (n m c d : Nat) (xs ys : List U64) (w : World) (B0 : Nat) (hr : belowB xs ys = r) (hx : Sl U64 w B0 A n xs) (hy : Sl U64 w B0 B m ys) (hn : n ≤ maxLen) (hm : m ≤ maxLen) :
    Calls Try.prog 68 #[.slice A n c, .slice B m d] w fun e w' => e = .returned (.bool r) ∧ w' = w := by
  subst hr; exact flipC (below_any A B n m c d xs ys w B0 hx hy hn hm)
set_option maxHeartbeats 1000000 in
theorem fair_any (A : Option Addr) (n c : Nat) (ls : List (List GEntry)) (mv : Value) (sh : GName → Hdr) (st : GName → List U64) (w : World) (hx : LogsIs w w.heap.size A n ls) (hs : StampsIs w w.heap.size mv sh st) (hn : n ≤ maxLen) :
    Calls Try.prog 27 #[.slice A n c, mv] w fun e w' => e = .returned (.bool (fairB ls st)) ∧ Below w.heap.size w w' := by
  unfold maxLen at hn
  have H := Lib.hid hx; clear hx
  have HT := Lib.hid hs; clear hs
  go_enter Try.func27, Try.ntmps27
  go_wp2
  go_loopw [13] (fun i wr => ∃ (k : Nat), k ≤ n ∧ i = .int .i64 k ∧ fairB (ls.take k) st = true ∧ Below w.heap.size w wr) (fun i _ => n - (intOf i).toNat)
  case atStart => exact ⟨0, by omega, rfl, by simp [fairB], Below.refl _ _⟩
  case round =>
    obtain ⟨k, hk, rfl, hall, hb⟩ := hrel
    have HA := Lib.hid hall; clear hall
    have HB := Lib.hid hb; clear hb
    by_cases hlt : k < n
    · obtain ⟨ad, A2, n2, c2, l, rfl, hadb, hlk, hc, hsl, hdl, hdc⟩ := (H.out.below HB.out).at_ (k := k) hlt
      have HL := Lib.hid hlk; have HS := Lib.hid hsl; clear hlk hsl
      unfold maxLen at hdc
      obtain ⟨wo, rfl⟩ : ∃ wo : World, wo = wr := ⟨_, rfl⟩
      go_wp2
      go_loopw [19] (fun i wr => ∃ (p : Nat), p ≤ n2 ∧ i = .int .i64 p ∧ fairB [l.take p] st = true ∧ Below w.heap.size w wr) (fun i _ => n2 - (intOf i).toNat)
      case atStart => exact ⟨0, by omega, rfl, by simp [fairB], HB.out⟩
      case round =>
        obtain ⟨p, hp, rfl, hall2, hb2⟩ := hrel
        have HA2 := Lib.hid hall2; clear hall2
        have HB2 := Lib.hid hb2; clear hb2
        have HSw := Lib.hid (HS.out.back HB.out)
        by_cases hlp : p < n2
        · obtain ⟨ae, b, hae, haeb, hbk, hgb⟩ := (HSw.out.below HB2.out).at_ (k := p) hlp
          have HBK := Lib.hid hbk; clear hbk
          change get? GEntry wr (ae.add (p * 35)) = some b at hgb
          subst hae
          obtain ⟨wm, rfl⟩ : ∃ wm : World, wm = wr := ⟨_, rfl⟩
          have hsm := HB2.out.size
          have hal := Lib.hid ((HB2.out.alloc HB2.out.size (.cells (GEntry.enc b).toArray 30)))
          have hnw := Lib.hid (nw30 wm wm.heap.size b rfl)
          go_wp2
          go_loopw [28] (fun i wr => ∃ (q : Nat), q ≤ p ∧ i = .int .i64 q ∧ (∀ j a, j < q → l[j]? = some a → belowB (st b.name) (st a.name) = false) ∧ Below w.heap.size w wr ∧ get? GEntry wr ⟨wm.heap.size, 0, none⟩ = some b) (fun i _ => p - (intOf i).toNat)
          case atStart => exact ⟨0, by omega, rfl, by intro j a hj; omega, hal.out, hnw.out⟩
          case round =>
            obtain ⟨q, hq, rfl, hall3, hb3, hgbb⟩ := hrel
            have HA3 := Lib.hid hall3; clear hall3
            have HB3 := Lib.hid hb3; clear hb3
            by_cases hlq : q < p
            · obtain ⟨ae', a, hae', _, hak, hga⟩ := (HSw.out.below HB3.out).at_ (k := q) (by omega)
              obtain rfl : ae = ae' := by injection hae'
              have HAK := Lib.hid hak; clear hak hae'
              change get? GEntry wr (ae.add (q * 35)) = some a at hga
              have hsz := get?_lt hgbb
              have hsz1 : wm.heap.size < wr.heap.size := hsz
              have hnm := Lib.hid (GEntry.at_name hgbb)
              have hgn : get? GName wr ⟨wm.heap.size, 0, none⟩ = some b.name := by have := hnm.out; simpa [Addr.add] using this
              have hst : ∀ k q, (gLookup 37 mv (GName.val k) false).run Try.prog ((wr.alloc (.cells (GEntry.enc a).toArray 30)).drewN q) = .ok (Hdr.val (sh k)) ((wr.alloc (.cells (GEntry.enc a).toArray 30)).drewN q) := fun k q => HT.out.1 _ (bdN (HB3.out.alloc HB3.out.size _) q) k
              have hal3 := Lib.hid (HB3.out.alloc HB3.out.size (.cells (GEntry.enc a).toArray 30))
              cases hbl : belowB (st b.name) (st a.name)
              · go_wp2
                go_quiet ((go_at_call 68; exact Calls.quiet_of_same (below_is _ _ _ _ _ _ _ _ _ _ _ hbl ((HT.out.2 _).1.below (bdN (HB3.out.alloc HB3.out.size _) _)) ((HT.out.2 _).1.below (bdN (HB3.out.alloc HB3.out.size _) _)) (HT.out.2 _).2 (HT.out.2 _).2)))
                go_wp2
                go_roundw
                case rel =>
                  refine ⟨q + 1, by omega, by go_num, fun j a' hj ha' => ?_, bdN hal3.out _, ?_⟩
                  · by_cases he : j = q
                    · subst he; have e1 := HAK.out; rw [e1] at ha'; injection ha' with ha'; subst ha'; exact hbl
                    · exact HA3.out j a' (by omega) ha'
                  · rw [get?_drewN]; exact get?_alloc _ hgbb
                case measure => simp [intOf] <;> omega
              · go_wp2
                go_quiet ((go_at_call 68; exact Calls.quiet_of_same (below_is _ _ _ _ _ _ _ _ _ _ _ hbl ((HT.out.2 _).1.below (bdN (HB3.out.alloc HB3.out.size _) _)) ((HT.out.2 _).1.below (bdN (HB3.out.alloc HB3.out.size _) _)) (HT.out.2 _).2 (HT.out.2 _).2)))
                go_wp2
                go_ret
                exact ⟨ret_bool (fairB_no HL.out HBK.out HAK.out hlq hbl).symm, bdN hal3.out _⟩
            · go_wp2
              go_roundw
              case rel =>
                refine ⟨p + 1, by omega, by go_num, ?_, HB3.out⟩
                have e0 := (fairB_iff _ _).1 HA2.out
                rw [fairB_iff]
                intro l' hl' i j b' a hi hj hji
                simp only [List.mem_singleton] at hl'
                subst hl'
                have hip : i < p + 1 := by have := (List.getElem?_eq_some_iff.1 hi).1; simp at this; omega
                rw [List.getElem?_take_of_lt hip] at hi
                rw [List.getElem?_take_of_lt (by omega)] at hj
                by_cases he : i = p
                · subst he
                  have e1 := HBK.out
                  rw [e1] at hi; injection hi with hi; subst hi
                  exact HA3.out j a (by omega) hj
                · exact e0 (l.take p) (by simp) i j b' a (by rw [List.getElem?_take_of_lt (by omega)]; exact hi) (by rw [List.getElem?_take_of_lt (by omega)]; exact hj) hji
              case measure => simp [intOf] <;> omega
        · go_wp2
          go_roundw
          case rel =>
            refine ⟨k + 1, by omega, by go_num, ?_, HB2.out⟩
            have e := HA2.out
            rw [List.take_of_length_le (by have := HS.out.1; omega)] at e
            rw [fairB_iff] at e ⊢
            have e0 := (fairB_iff _ _).1 HA.out
            intro l' hl' i j b a hi hj hji
            rcases mem_take_succ HL.out hl' with h | h
            · exact e0 l' h i j b a hi hj hji
            · subst h; exact e l' (by simp) i j b a hi hj hji
          case measure => simp [intOf] <;> omega
    · go_wp2
      go_ret
      refine ⟨ret_bool ?_, HB.out⟩
      have := HA.out
      rw [List.take_of_length_le (by have := H.out.len; omega)] at this
      exact this.symm

end Go.Proofs.Yteockodnfempfaa
/- What the law of small entries computes. Conditions: those named in each theorem. -/
namespace Go.Proofs.Yteockodnfempfaa
open Go Go.RowKit Go.Gv

def smallE (e : GEntry) : GEntry := ⟨⟨within e.name.client 2, within e.name.seq 3⟩, default, e.time.tmod 4⟩
def smallL (xs : List GEntry) : List GEntry := (xs.take 8).map smallE
/-- Entries whose numbers fit. -/
def EntryOk (e : GEntry) : Prop := (-9223372036854775808 ≤ e.name.client ∧ e.name.client ≤ 9223372036854775807) ∧ (-9223372036854775808 ≤ e.name.seq ∧ e.name.seq ≤ 9223372036854775807) ∧ 0 ≤ e.time ∧ e.time ≤ 18446744073709551615

theorem within_is (v n r : Int) (w : World) (hr : within v n = r) (hn : n ≤ 9223372036854775807) (hv : -9223372036854775808 ≤ v) (hv2 : v ≤ 9223372036854775807) :
    Calls Try.prog 26 #[.int .i64 v, .int .i64 n] w fun e w' => e = .returned (.int .i64 r) ∧ w' = w := by
  subst hr; exact flipC (within_any v n w hn hv hv2)

set_option maxRecDepth 100000 in
set_option maxHeartbeats 1000000 in
theorem small_any (A : Option Addr) (n c : Nat) (xs : List GEntry) (w : World) (hx : Sl GEntry w w.heap.size A n xs) (hok : ∀ x ∈ xs, EntryOk x) (hn : n ≤ maxLen) :
    Calls Try.prog 21 #[.slice A n c] w fun e w' => ∃ v, e = .returned v ∧ OwnS w' w.heap.size 30 v (smallL xs) ∧ Below w.heap.size w w' := by
  unfold maxLen at hn
  have H := Lib.hid hx; clear hx
  go_enter Try.func21, Try.ntmps21
  go_wp2
  go_loopw [3, 4] (fun v i wr => ∃ (k : Nat), k ≤ n ∧ k ≤ 8 ∧ i = .int .i64 k ∧ OwnS wr w.heap.size 30 v ((xs.take k).map smallE) ∧ Below w.heap.size w wr) (fun _ i _ => 8 - (intOf i).toNat)
  case atStart => exact ⟨0, by omega, by omega, rfl, OwnS.nil _ _ _, Below.refl _ _⟩
  case round =>
    obtain ⟨k, hk, hk8, rfl, hown, hb⟩ := hrel
    have HO := Lib.hid hown; clear hown
    have HB := Lib.hid hb; clear hb
    have hsz := HB.out.size
    by_cases hlt : k < n
    · by_cases hlt8 : k < 8
      · obtain ⟨ad, x, rfl, hab, hxk, hgx⟩ := (H.out.below HB.out).at_ (k := k) hlt
        have HX := Lib.hid hxk; clear hxk
        obtain ⟨⟨hc1, hc2⟩, ⟨hs1, hs2⟩, ht1, ht2⟩ := hok x (List.mem_of_getElem? HX.out)
        change get? GEntry wr (ad.add (k * 35)) = some x at hgx
        have hnm := GEntry.at_name hgx
        have f0 := cell_zero (cell_zero (GName.at_client hnm))
        have f1 := cell_off (by omega) (GName.at_seq hnm)
        have f2 := cell_off (by omega) (GEntry.at_time hgx)
        simp only [add_block, Addr.add_zero'] at f0 f1 f2
        clear hnm hgx
        obtain ⟨r1, hr1⟩ : ∃ r, within x.name.client 2 = r := ⟨_, rfl⟩
        obtain ⟨r2, hr2⟩ : ∃ r, within x.name.seq 3 = r := ⟨_, rfl⟩
        have HR1 := Lib.hid hr1; have HR2 := Lib.hid hr2; clear hr1 hr2
        go_wp2
        obtain ⟨ι, W, hne, hW, hWs⟩ := classFam (fun w' => Below w.heap.size w w') HB.out
        obtain ⟨z0, hz0⟩ := hWs _ HB.out.drew
        have HW := Lib.hid hW; clear hW
        have HWs := Lib.hid hWs; clear hWs
        refine wp_region_looks [0,1,2,3,4,5,6,7,8,9,10,11,12,13,14,15,16,17,18,19,20,21,22] [23,24,25] W (fun z n => HWs.out _ (bdN (HW.out z) n)) z0 hz0 (by kernel_rfl) rfl rfl (by kernel_rfl) (fun _ _ _ _ hd h => And.intro (hd ▸ And.left h) (And.right h)) ?_
        clear hz0 z0
        have g0 : ∀ z, (W z).cell? (ad.add (k * 35)) = some (.int .i64 x.name.client) := fun z => by rw [← f0]; exact ((HW.out z).cell (by rw [add_block]; exact hab)).trans (HB.out.cell (by rw [add_block]; exact hab)).symm
        have g1 : ∀ z, (W z).cell? ⟨ad.block, (ad.add (k * 35)).off + 1, none⟩ = some (.int .i64 x.name.seq) := fun z => by rw [← f1]; exact ((HW.out z).cell (p := ⟨ad.block, _, none⟩) hab).trans (HB.out.cell (p := ⟨ad.block, _, none⟩) hab).symm
        have g2 : ∀ z, (W z).cell? ⟨ad.block, (ad.add (k * 35)).off + 34, none⟩ = some (.int .u64 x.time) := fun z => by rw [← f2]; exact ((HW.out z).cell (p := ⟨ad.block, _, none⟩) hab).trans (HB.out.cell (p := ⟨ad.block, _, none⟩) hab).symm
        clear f0 f1 f2
        repeat (refine wpLooks_step (fun K hK => ?_); go_simp; refine hK _ ?_; clear hK K)
        refine wpLooks_step (fun K hK => ?_); go_simp
        refine ⟨_, fun z => (within_is x.name.client 2 r1 (W z) HR1.out (by omega) (by omega) (by omega)).mono (fun e w'' h => ⟨h.1, 0, h.2⟩), hK _ ?_⟩
        clear hK K
        repeat (refine wpLooks_step (fun K hK => ?_); go_simp; refine hK _ ?_; clear hK K)
        refine wpLooks_step (fun K hK => ?_); go_simp
        refine ⟨_, fun z => (within_is x.name.seq 3 r2 (W z) HR2.out (by omega) (by omega) (by omega)).mono (fun e w'' h => ⟨h.1, 0, h.2⟩), hK _ ?_⟩
        clear hK K
        repeat (refine wpLooks_step (fun K hK => ?_); go_simp; refine hK _ ?_; clear hK K)
        refine wpLooks_nil ?_
        have hEnc : ∃ cs : Array Value, cs = (Enc.enc (smallE x)).toArray := ⟨_, rfl⟩
        refine rest_build1 rfl _ rfl ei22 (by decide) (smallE x) ?_ ?_ fun n1 => ?_
        · have e1 := HR1.out; have e2 := HR2.out
          subst e1 e2; rfl
        · exact fun n1 => HWs.out _ ((bdN HB.out.drew n1).alloc (by simpa using hsz) _)
        have hB1 := (bdN HB.out.drew n1).alloc (by simpa using hsz) (.cells (Enc.enc (smallE x)).toArray 30)
        have hown1 : OwnS ((wr.drew.drewN n1).alloc (.cells (Enc.enc (smallE x)).toArray 30)) w.heap.size 30 u3 ((xs.take k).map smallE) := ((HO.out.drew).drewN n1).alloc _
        have hlen : ((xs.take k).map smallE).length = k := by rw [List.length_map, List.length_take, H.out.1]; omega
        refine rest_append_S rfl _ _ rfl ei22 rfl hown1 rfl (Sl.new_ (B := wr.heap.size + 1) (xs := [smallE x]) (by simp) rfl rfl (by simp)) (by rw [hlen]; unfold maxLen; omega) (by rw [hlen]; omega) (by simp; omega) ?_ fun n2 v' w' ho' hg' _ => ?_
        · exact fun n2 w' hg' => HWs.out _ (Gv.Below.appS (bdN hB1 n2) hg' (hown1.drewN n2) (Nat.le_refl _) (by simp; omega))
        have hB2 := Gv.Below.appS (bdN hB1 n2) hg' (hown1.drewN n2) (Nat.le_refl _) (by simp; omega)
        refine rest_assign rfl _ rfl (fun n3 => HWs.out _ (bdN hB2 n3)) fun n3 => ?_
        refine wpRest_nil fun n4 => ?_
        have hB3 := bdN (bdN hB2 n3) n4
        have ho3 := (ho'.drewN n3).drewN n4
        have happ : (xs.take k).map smallE ++ [smallE x] = (xs.take (k + 1)).map smallE := by
          rw [List.take_add_one, HX.out, List.map_append]; rfl
        rw [happ] at ho3
        clear ho' hg' hB1 hB2 hown1 hEnc g0 g1 g2
        have HB3 := Lib.hid hB3; have HO3 := Lib.hid ho3; clear hB3 ho3
        go_wp2
        exact ⟨⟨k + 1, by omega, by omega, by simp, HO3.out, World.drewN_drewN w' n3 n4 ▸ HB3.out⟩, by simp [intOf]; omega⟩
      · go_wp2
        have hk8' : k = 8 := by omega
        subst hk8'
        go_ret
        exact ⟨u3, rfl, HO.out, HB.out⟩
    · go_wp2
      have e : smallL xs = (xs.take k).map smallE := by
        unfold smallL
        rw [List.take_of_length_le (by rw [H.out.1]; omega), List.take_of_length_le (by rw [H.out.1]; omega)]
      go_ret
      exact ⟨u3, rfl, e ▸ HO.out, HB.out⟩

end Go.Proofs.Yteockodnfempfaa
/- What Copy, Cut, audit.Agree and wakes compute. Conditions: those named in each theorem. -/
namespace Go.Proofs.Yteockodnfempfaa
open Go Go.RowKit Go.Gv

theorem copyEntry_any (A : Option Addr) (n c : Nat) (xs : List GEntry) (w : World) (B : Nat) (hx : Sl GEntry w B A n xs) (hn : n * 56 ≤ 140737488355328) :
    Calls Try.prog 22 #[.slice A n c] w fun e w' => ∃ v, e = .returned v ∧ OwnS w' w.heap.size 30 v xs ∧ Below w.heap.size w w' := by
  have H := Lib.hid hx; clear hx
  obtain ⟨v', w', hrun, ho, hg, _⟩ := gAppend_S (P := Try.prog) ei22 (OwnS.nil (α := GEntry) w w.heap.size 30) (c := c) H.out (by unfold maxLen; simp; omega) (by simp; omega) (Nat.le_refl _) 22
  have hb := Gv.Below.appS (Below.refl w.heap.size w) hg (OwnS.nil (α := GEntry) w w.heap.size 30) (Nat.le_refl _) (Nat.le_refl _)
  have HO := Lib.hid ho; have HB := Lib.hid hb; clear ho hg hb
  go_enter Try.func22, Try.ntmps22
  go_wp2
  go_ret
  exact ⟨v', rfl, by have := HO.out; simpa using this, HB.out⟩
theorem copyU64_any (A : Option Addr) (n c : Nat) (xs : List U64) (w : World) (B : Nat) (hx : Sl U64 w B A n xs) (hn : n * 8 ≤ 140737488355328) :
    Calls Try.prog 70 #[.slice A n c] w fun e w' => ∃ v, e = .returned v ∧ OwnS w' w.heap.size 28 v xs ∧ Below w.heap.size w w' := by
  have H := Lib.hid hx; clear hx
  obtain ⟨v', w', hrun, ho, hg, _⟩ := gAppend_S (P := Try.prog) ei36 (OwnS.nil (α := U64) w w.heap.size 28) (c := c) H.out (by unfold maxLen; simp; omega) (by simp; omega) (Nat.le_refl _) 36
  have hb := Gv.Below.appS (Below.refl w.heap.size w) hg (OwnS.nil (α := U64) w w.heap.size 28) (Nat.le_refl _) (Nat.le_refl _)
  have HO := Lib.hid ho; have HB := Lib.hid hb; clear ho hg hb
  go_enter Try.func70, Try.ntmps70
  go_wp2
  go_ret
  exact ⟨v', rfl, by have := HO.out; simpa using this, HB.out⟩

theorem cutU64_any (A : Option Addr) (n c : Nat) (q : Nat) (xs : List U64) (w : World) (B : Nat) (hx : Sl U64 w B A n xs) (hn : n ≤ c) (hc : c ≤ maxLen) (hq : q * 8 ≤ 140737488355328) :
    Calls Try.prog 33 #[.slice A n c, .int .i64 q] w fun e w' => ∃ v, e = .returned v ∧ OwnS w' w.heap.size 28 v (xs.take q) ∧ Below w.heap.size w w' := by
  unfold maxLen at hc
  have H := Lib.hid hx; clear hx
  have e0 : xs.take (min n q) = xs.take q := by
    have := H.out.1
    rw [← List.take_take, List.take_of_length_le (i := n) (by simp; omega)]
  obtain ⟨v', w', hrun, ho, hg, _⟩ := gAppend_S (P := Try.prog) ei36 (OwnS.nil (α := U64) w w.heap.size 28) (c := c) (H.out.take (Nat.min_le_left n q)) (by unfold maxLen; simp; omega) (by simp; omega) (Nat.le_refl _) 36
  have hb := Gv.Below.appS (Below.refl w.heap.size w) hg (OwnS.nil (α := U64) w w.heap.size 28) (Nat.le_refl _) (Nat.le_refl _)
  rw [List.nil_append, e0] at ho
  have HO := Lib.hid ho; have HB := Lib.hid hb; clear ho hg hb e0
  go_enter Try.func33, Try.ntmps33
  go_wp2
  go_ret
  exact ⟨v', rfl, HO.out, HB.out⟩

/-- Of each two logs one is a beginning of the other one. -/
def agreeB (ls : List (List GEntry)) : Bool := decide (∀ i < ls.length, ∀ j < i, prefixB (ls.getD i []) (ls.getD j []) = true)
theorem agreeB_iff (ls : List (List GEntry)) : agreeB ls = true ↔ ∀ (i j : Nat) (a b : List GEntry), ls[i]? = some a → ls[j]? = some b → j < i → prefixB a b = true := by
  unfold agreeB
  rw [decide_eq_true_eq]
  constructor
  · intro h i j a b hi hj hji
    have := h i (List.getElem?_eq_some_iff.1 hi).1 j hji
    rwa [getD_of hi, getD_of hj] at this
  · intro h i hi j hj
    exact h i j _ _ (by rw [List.getD_eq_getElem?_getD, List.getElem?_eq_getElem hi]; rfl) (by rw [List.getD_eq_getElem?_getD, List.getElem?_eq_getElem (by omega)]; rfl) hj
theorem prefix_is (r : Bool) (A B : Option Addr) (n m c d : Nat) (xs ys : List GEntry) (w : World) (B0 : Nat) (hr : prefixB xs ys = r) (hx : Sl GEntry w B0 A n xs) (hy : Sl GEntry w B0 B m ys) (hn : n ≤ maxLen) (hm : m ≤ maxLen) :
    Calls Try.prog 23 #[.slice A n c, .slice B m d] w fun e w' => e = .returned (.bool r) ∧ ∃ n, w' = w.drewN n := by
  subst hr; exact prefix_any A B n m c d xs ys w B0 hx hy hn hm
theorem LogsIs.drewN {w : World} {B : Nat} {A : Option Addr} {n : Nat} {ls : List (List GEntry)} (h : LogsIs w B A n ls) (m : Nat) : LogsIs (w.drewN m) B A n ls := by
  obtain ⟨hs, h1, h2, h3⟩ := h
  exact ⟨hs, h1.drewN_ m, h2, fun i h l a b => ⟨(h3 i h l a b).1.drewN_ m, (h3 i h l a b).2⟩⟩
theorem agreeB_take {ls : List (List GEntry)} {k : Nat} {l : List GEntry} (hl : ls[k]? = some l) (h : agreeB (ls.take k) = true) (h2 : ∀ j a, j < k → ls[j]? = some a → prefixB l a = true) : agreeB (ls.take (k + 1)) = true := by
  rw [agreeB_iff] at h ⊢
  intro i j a b hi hj hji
  have hik : i < k + 1 := by have := (List.getElem?_eq_some_iff.1 hi).1; simp at this; omega
  rw [List.getElem?_take_of_lt hik] at hi
  rw [List.getElem?_take_of_lt (by omega)] at hj
  by_cases he : i = k
  · subst he; rw [hl] at hi; injection hi with hi; subst hi
    exact h2 j b hji hj
  · exact h i j a b (by rw [List.getElem?_take_of_lt (by omega)]; exact hi) (by rw [List.getElem?_take_of_lt (by omega)]; exact hj) hji
theorem agreeB_no {ls : List (List GEntry)} {k j : Nat} {l m : List GEntry} (hl : ls[k]? = some l) (hm : ls[j]? = some m) (hj : j < k) (h : prefixB l m = false) : agreeB ls = false := by
  cases hA : agreeB ls
  · rfl
  · have := (agreeB_iff ls).1 hA k j l m hl hm hj
    rw [h] at this; cases this

set_option maxHeartbeats 1000000 in
theorem agree_any (A : Option Addr) (n c : Nat) (ls : List (List GEntry)) (w : World) (B0 : Nat) (hx : LogsIs w B0 A n ls) (hn : n ≤ c) (hc : c ≤ maxLen) :
    Calls Try.prog 24 #[.slice A n c] w fun e w' => e = .returned (.bool (agreeB ls)) ∧ ∃ n, w' = w.drewN n := by
  unfold maxLen at hc
  have H := Lib.hid hx; clear hx
  go_enter Try.func24, Try.ntmps24
  go_wp2
  go_loopw [9] (fun i wr => ∃ (k m : Nat), k ≤ n ∧ i = .int .i64 k ∧ agreeB (ls.take k) = true ∧ wr = w.drewN m) (fun i _ => n - (intOf i).toNat)
  case atStart => exact ⟨0, 0, by omega, rfl, by simp [agreeB], rfl⟩
  case round =>
    obtain ⟨k, m0, hk, rfl, hall, rfl⟩ := hrel
    have HA := Lib.hid hall; clear hall
    by_cases hlt : k < n
    · obtain ⟨ad, A2, n2, c2, l, rfl, hab, hl, hcell, hsl, hnc2, hc2⟩ := H.out.at_ hlt
      have HL := Lib.hid hl; have HS := Lib.hid hsl; clear hl hsl
      unfold maxLen at hc2
      go_wp2
      go_loopw [18] (fun i wr => ∃ (j m : Nat), j ≤ k ∧ i = .int .i64 j ∧ (∀ p a, p < j → ls[p]? = some a → prefixB l a = true) ∧ wr = w.drewN m) (fun i _ => k - (intOf i).toNat)
      case atStart => exact ⟨0, m0, by omega, rfl, fun p a hp => by omega, rfl⟩
      case round =>
        obtain ⟨j, m1, hj, rfl, hall2, rfl⟩ := hrel
        have HA2 := Lib.hid hall2; clear hall2
        by_cases hlt2 : j < k
        · obtain ⟨ad', A3, n3, c3, l3, hade, _, hl3, hcell3, hsl3, hnc3, hc3⟩ := H.out.at_ (k := j) (by omega)
          injection hade with hade; subst hade
          have HL3 := Lib.hid hl3; have HS3 := Lib.hid hsl3; clear hl3 hsl3
          unfold maxLen at hc3
          cases hp : prefixB l l3
          · have HP := Lib.hid hp; clear hp
            go_wp2_with (go_at_call 23; refine (prefix_is false _ _ _ _ _ _ _ _ _ _ HP.out (HS.out.drewN_ _) (HS3.out.drewN_ _) (by unfold maxLen; omega) (by unfold maxLen; omega)).mono ?_; rintro _ _ ⟨rfl, m2, rfl⟩)
            go_ret
            exact ⟨ret_bool (agreeB_no HL.out HL3.out hlt2 HP.out).symm, m1 + m2, rfl⟩
          · have HP := Lib.hid hp; clear hp
            go_wp2_with (go_at_call 23; refine (prefix_is true _ _ _ _ _ _ _ _ _ _ HP.out (HS.out.drewN_ _) (HS3.out.drewN_ _) (by unfold maxLen; omega) (by unfold maxLen; omega)).mono ?_; rintro _ _ ⟨rfl, m2, rfl⟩)
            go_roundw
            case rel =>
              refine ⟨j + 1, m1 + m2, by omega, by go_num, fun p a hp ha => ?_, rfl⟩
              by_cases he : p = j
              · subst he; rw [HL3.out] at ha; injection ha with ha; subst ha; exact HP.out
              · exact HA2.out p a (by omega) ha
            case measure => simp [intOf] <;> omega
        · go_wp2
          go_roundw
          case rel =>
            refine ⟨k + 1, m1, by omega, by go_num, agreeB_take HL.out HA.out fun p a hp ha => HA2.out p a (by omega) ha, rfl⟩
          case measure => simp [intOf] <;> omega
    · go_wp2
      go_ret
      refine ⟨ret_bool ?_, m0, rfl⟩
      have := HA.out
      rw [List.take_of_length_le (by have := H.out.len; omega)] at this
      exact this.symm

theorem wakes_any (w : World) : Calls Try.prog 25 #[] w fun e w' => e = .returned (.bool true) ∧ Below w.heap.size w w' := by
  go_enter Try.func25, Try.ntmps25
  go_wp2_with (first
    | (go_at_call 24; refine (agree_any none 0 0 [] _ 0 ⟨[], Sl.nil, rfl, by simp⟩ (by omega) (by unfold maxLen; omega)).mono ?_; rintro _ _ ⟨rfl, m1, rfl⟩; rw [show agreeB [] = true from rfl])
    | (go_at_call 23; go_loud (refine (prefix_is true none _ 0 1 0 1 [] [⟨default, default, 1⟩] _ (World.heap _).size.succ rfl Sl.nil (Sl.new_ (by rw [List.flatMap_cons, List.flatMap_nil, List.append_nil]; rfl) rfl rfl (Nat.lt_succ_self _)) (by unfold maxLen; omega) (by unfold maxLen; omega)).mono ?_); rintro _ _ ⟨rfl, m2, rfl⟩))
  go_ret
  exact ⟨rfl, bdN ((bdN (Below.refl _ _) _).alloc (Nat.le_refl _) _) _⟩
end Go.Proofs.Yteockodnfempfaa
/- AuditGrows returns true, walked. Conditions: those named in each theorem. -/
namespace Go.Proofs.Yteockodnfempfaa
open Go Go.RowKit Go.Gv

/-- Slices of the call's own, by their address. -/
def OwnA {α : Type} [Enc α] (w : World) (base : Nat) (e : TypeId) (A : Option Addr) (c : Nat) (xs : List α) : Prop := OwnS w base e (.slice A xs.length c) xs
section
variable {α : Type} [Enc α] {w w' : World} {base B : Nat} {e t : TypeId} {A : Option Addr} {c : Nat} {xs ys : List α} {P : Program}
theorem OwnS.ownA {v : Value} (h : OwnS w base e v xs) : ∃ A c, v = .slice A xs.length c ∧ OwnA w base e A c xs ∧ xs.length ≤ c ∧ c ≤ maxLen := by
  obtain ⟨A, c, rfl, _, h1, h2, _⟩ := h.shape
  exact ⟨A, c, rfl, h, h1, h2⟩
theorem OwnA.sl (h : OwnA w base e A c xs) : Sl α w w.heap.size A xs.length xs := by
  obtain ⟨A', c', hv, hs, _⟩ := OwnS.shape h
  injection hv with h1 h2 h3; subst h1; exact hs
theorem OwnA.below (h : OwnA w base e A c xs) (hb : Below w.heap.size w w') : OwnA w' base e A c xs := OwnS.below h hb (Nat.le_refl _)
end

theorem entry_time (x : GEntry) (t : Int) : Enc.enc (⟨x.name, x.hash, t⟩ : GEntry) = (Enc.enc x).set 34 (.int .u64 t) := by
  change GEntry.enc _ = (GEntry.enc x).set 34 _
  unfold GEntry.enc
  rw [List.set_append_right _ _ (by rw [GName.enc_len]; omega), List.set_append_right _ _ (by rw [GHash.enc_len, GName.enc_len]; omega), GName.enc_len, GHash.enc_len]
  rfl
theorem flat_set {α : Type} [Enc α] {x y : α} {j : Nat} {v : Value} (hj : j < Enc.n α) (hy : Enc.enc y = (Enc.enc x).set j v) :
    ∀ (xs : List α) (k : Nat), xs[k]? = some x → (xs.flatMap Enc.enc).set (k * Enc.n α + j) v = (xs.set k y).flatMap Enc.enc
  | [], k, h => by simp at h
  | z :: xs, 0, h => by
    simp at h; subst h
    rw [List.flatMap_cons, List.set_cons_zero, List.flatMap_cons, hy, Nat.zero_mul, Nat.zero_add, List.set_append_left _ _ (by rw [Enc.len]; exact hj)]
  | z :: xs, k + 1, h => by
    have e : (k + 1) * Enc.n α + j - (Enc.enc z).length = k * Enc.n α + j := by rw [Enc.len, Nat.add_mul]; omega
    rw [List.flatMap_cons, List.set_cons_succ, List.flatMap_cons, List.set_append_right _ _ (by rw [Enc.len, Nat.add_mul]; omega), e, flat_set hj hy xs k (by simpa using h)]
theorem OwnA.poke {α : Type} [Enc α] {w : World} {base e c g k j : Nat} {xs : List α} {x y : α} {v : Value} (h : OwnA w base e (some ⟨g, 0, none⟩) c xs) (hk : xs[k]? = some x) (hj : j < Enc.n α) (hy : Enc.enc y = (Enc.enc x).set j v) :
    OwnA (w.setCell ⟨g, k * Enc.n α + j, none⟩ v) base e (some ⟨g, 0, none⟩) c (xs.set k y) := by
  rcases h with ⟨h0, ⟨h1, _⟩ | ⟨g', cap, cur, h1, h2, h3, h4, h5, h6, h7⟩⟩
  · cases h1
  · injection h1 with h1 _ h1c; injection h1 with h1; injection h1 with h1; subst h1; subst h1c
    have hh := heap_setCell_same w g (k * Enc.n α + j) cur e v h3
    refine ⟨by rw [flat_len, List.length_set], .inr ⟨g, c, _, by rw [List.length_set], h2, hh, by rw [List.length_set]; exact h4, h5, by simpa using h6, ?_⟩⟩
    rw [List.length_set, Array.toList_setIfInBounds, List.take_set, h7, flat_set hj hy xs k hk]
theorem add_zeroA (g n : Nat) : (⟨g, 0, none⟩ : Addr).add n = ⟨g, n, none⟩ := by unfold Addr.add; split <;> simp_all

theorem _root_.Go.Gv.Sl.step {α : Type} [Enc α] {w w' : World} {A : Option Addr} {n : Nat} {xs : List α} (h : Sl α w w.heap.size A n xs) (hb : Below w.heap.size w w') : Sl α w' w'.heap.size A n xs := (h.below hb).more hb.size

theorem prefixB_takes (l : List GEntry) (i j : Nat) : prefixB (l.take i) (l.take j) = true := by
  unfold prefixB
  rw [decide_eq_true_eq, List.take_take, List.take_take, List.length_take, List.length_take]
  congr 1; omega
theorem prefixB_of {l a b : List GEntry} {i j : Nat} (ha : a = l.take i) (hb : b = l.take j) : prefixB a b = true := by rw [ha, hb]; exact prefixB_takes l i j
theorem agreeB_takes (l : List GEntry) (ls : List (List GEntry)) (h : ∀ a ∈ ls, ∃ k, a = l.take k) : agreeB ls = true := by
  rw [agreeB_iff]
  intro i j a b hi hj _
  obtain ⟨k, rfl⟩ := h a (List.mem_of_getElem? hi)
  obtain ⟨k2, rfl⟩ := h b (List.mem_of_getElem? hj)
  exact prefixB_takes l k k2

theorem small_is (A : Option Addr) (n c : Nat) (xs la : List GEntry) (w : World) (B : Nat) (has : smallL xs = la) (hx : Sl GEntry w B A n xs) (hB : B ≤ w.heap.size) (hok : ∀ x ∈ xs, EntryOk x) (hn : n ≤ maxLen) :
    Calls Try.prog 21 #[.slice A n c] w fun e w' => ∃ A' c', e = .returned (.slice A' la.length c') ∧ OwnA w' w.heap.size 30 A' c' la ∧ Below w.heap.size w w' ∧ la.length ≤ c' ∧ c' ≤ maxLen := by
  subst has
  refine (small_any A n c xs w (hx.more hB) hok hn).mono ?_
  rintro _ w' ⟨v, rfl, ho, hb⟩
  obtain ⟨A', c', rfl, h1, h2, h3⟩ := OwnS.ownA ho
  exact ⟨A', c', rfl, h1, hb, h2, h3⟩
theorem copyEntry_is (A : Option Addr) (c : Nat) (xs : List GEntry) (w : World) (B : Nat) (hx : Sl GEntry w B A xs.length xs) (hn : xs.length * 56 ≤ 140737488355328) :
    Calls Try.prog 22 #[.slice A xs.length c] w fun e w' => ∃ A' c', e = .returned (.slice A' xs.length c') ∧ OwnA w' w.heap.size 30 A' c' xs ∧ Below w.heap.size w w' ∧ xs.length ≤ c' ∧ c' ≤ maxLen := by
  refine (copyEntry_any A xs.length c xs w B hx hn).mono ?_
  rintro _ w' ⟨v, rfl, ho, hb⟩
  obtain ⟨A', c', rfl, h1, h2, h3⟩ := OwnS.ownA ho
  exact ⟨A', c', rfl, h1, hb, h2, h3⟩

def Logs2 (w : World) (B : Nat) : List Hdr → List (List GEntry) → Prop
  | [], [] => True
  | h :: hs, l :: ls => (Sl GEntry w B h.a h.len l ∧ h.len ≤ h.cap ∧ h.cap ≤ maxLen) ∧ Logs2 w B hs ls
  | _, _ => False
theorem Logs2.len {w : World} {B : Nat} : ∀ {hs : List Hdr} {ls : List (List GEntry)}, Logs2 w B hs ls → hs.length = ls.length
  | [], [], _ => rfl
  | _ :: hs, _ :: ls, h => by simp [Logs2.len h.2]
  | [], _ :: _, h => h.elim
  | _ :: _, [], h => h.elim
theorem Logs2.get {w : World} {B : Nat} : ∀ {hs : List Hdr} {ls : List (List GEntry)}, Logs2 w B hs ls → ∀ (i : Nat) (h : Hdr) (l : List GEntry), hs[i]? = some h → ls[i]? = some l → Sl GEntry w B h.a h.len l ∧ h.len ≤ h.cap ∧ h.cap ≤ maxLen
  | [], [], _, i, h, l, h1, _ => by simp at h1
  | x :: hs, y :: ls, H, 0, h, l, h1, h2 => by
    simp at h1 h2; subst h1; subst h2; exact H.1
  | x :: hs, y :: ls, H, i + 1, h, l, h1, h2 => Logs2.get H.2 i h l (by simpa using h1) (by simpa using h2)
theorem LogsIs.new {w : World} {B n p : Nat} {t : TypeId} {cs : Array Value} {hs : List Hdr} {ls : List (List GEntry)} (h : Logs2 w B hs ls) (hB : B ≤ w.heap.size) (hcs : cs.toList = hs.flatMap Enc.enc) (hn : hs.length = n) (hp : p = w.heap.size) :
    LogsIs (w.alloc (.cells cs t)) (w.heap.size + 1) (some ⟨p, 0, none⟩) n ls :=
  ⟨hs, Sl.new_ hcs hn hp (by omega), h.len, fun i hd l h1 h2 => by
    obtain ⟨a, b, c⟩ := h.get i hd l h1 h2
    exact ⟨((a.below ((Below.refl _ _).alloc hB _))).more (by omega), b, c⟩⟩

set_option maxRecDepth 100000 in
set_option maxHeartbeats 2000000 in
theorem grows_any (A B : Option Addr) (n c m d : Nat) (xs ys : List GEntry) (at_ : Int) (w : World) (hx : Sl GEntry w w.heap.size A n xs) (hy : Sl GEntry w w.heap.size B m ys) (hox : ∀ x ∈ xs, EntryOk x) (hoy : ∀ x ∈ ys, EntryOk x) (hn : n ≤ maxLen) (hm : m ≤ maxLen)
    (ha : -9223372036854775808 ≤ at_) (ha2 : at_ ≤ 9223372036854775807) :
    Calls Try.prog 3 #[.slice A n c, .slice B m d, .int .i64 at_] w fun e w' => e = .returned (.bool true) ∧ Below w.heap.size w w' := by
  unfold maxLen at hn hm
  have H := Lib.hid hx; have H2 := Lib.hid hy; clear hx hy
  obtain ⟨la, has⟩ : ∃ la, smallL xs = la := ⟨_, rfl⟩
  obtain ⟨lb, hbs⟩ : ∃ lb, smallL ys = lb := ⟨_, rfl⟩
  have hlen1 : la.length ≤ 8 := by rw [← has]; simp [smallL]; omega
  have hlen2 : lb.length ≤ 8 := by rw [← hbs]; simp [smallL]; omega
  have htime : ∀ x ∈ la, 0 ≤ x.time ∧ x.time ≤ 3 := by
    intro x hx
    rw [← has] at hx
    simp only [smallL, List.mem_map] at hx
    obtain ⟨e, he, rfl⟩ := hx
    have h0 := (hox e (List.mem_of_mem_take he)).2.2.1
    simp only [smallE]
    have := Int.tmod_eq_emod_of_nonneg h0 (b := 4)
    omega
  have HAS := Lib.hid has; have HBS := Lib.hid hbs; clear has hbs
  have HOX := Lib.hid hox; have HOY := Lib.hid hoy; have HTM := Lib.hid htime; clear hox hoy htime
  go_enter Try.func3, Try.ntmps3
  go_wp2_with fail
  refine (small_is A n c xs la w _ HAS.out H.out (Nat.le_refl _) HOX.out hn).mono ?_
  rintro _ w1 ⟨A1, c1, rfl, ho1, hb1, hc1, hm1⟩
  have HO1 := Lib.hid ho1; have HB1 := Lib.hid hb1; clear ho1 hb1
  go_wp2_with fail
  refine (small_is B m d ys lb w1 _ HBS.out (H2.out.below HB1.out) HB1.out.size HOY.out hm).mono ?_
  rintro _ w2 ⟨A2, c2, rfl, ho2, hb2, hc2, hm2⟩
  have HO2 := Lib.hid ho2; have HB2 := Lib.hid hb2; clear ho2 hb2
  go_wp2_with fail
  have hS1 := HO1.out.sl.step HB2.out
  have hS2 := HO2.out.sl
  refine (copyEntry_is A1 c1 la w2 _ hS1 (by omega)).mono ?_
  rintro _ w3 ⟨A3, c3, rfl, ho3, hb3, hc3, hm3⟩
  obtain ⟨lc, hlc⟩ : ∃ lc, la ++ lb = lc := ⟨_, rfl⟩
  obtain ⟨v4, w4, hrun4, ho4, hg4, _⟩ := gAppend_S (P := Try.prog) ei22 (t := 22) ho3 (c := c2) (hS2.step hb3) (by unfold maxLen; omega) (by omega) hb3.size 22
  have hb4 := Gv.Below.appS hb3 hg4 ho3 (Nat.le_refl _) hb3.size
  have hl4 : lc.length ≤ 16 := by rw [← hlc]; simp; omega
  rw [hlc] at ho4
  have HLT := Lib.hid (show la = lc.take la.length by rw [← hlc]; simp)
  have HLS := Lib.hid (show lc = lc.take lc.length by simp)
  have HLC := Lib.hid hlc; clear hlc
  obtain ⟨A4, c4, rfl, ho4', hc4, hm4⟩ := OwnS.ownA ho4
  have S1 := Lib.hid (hS1.step hb4); have S4 := Lib.hid ho4'.sl
  have HB4 := Lib.hid ((HB1.out.trans (HB2.out.mono HB1.out.size)).trans (hb4.mono (by have := HB1.out.size; have := HB2.out.size; omega)))
  clear ho4 ho4' hb4 hg4 ho3 hb3 hS1 hS2 HB1 HB2 HO1 HO2
  go_wp2_with fail
  refine (prefix_is true A1 A4 _ _ _ _ la lc w4 w4.heap.size ?p1 S1.out S4.out (by unfold maxLen; omega) (by unfold maxLen; omega)).mono ?_
  case p1 => exact prefixB_of HLT.out HLS.out
  rintro _ _ ⟨rfl, m5, rfl⟩
  go_wp2_with fail
  refine (prefix_is true A4 A1 _ _ _ _ lc la _ w4.heap.size ?p1 (S4.out.drewN_ _) (S1.out.drewN_ _) (by unfold maxLen; omega) (by unfold maxLen; omega)).mono ?_
  case p1 => exact prefixB_of HLS.out HLT.out
  rintro _ _ ⟨rfl, m6, rfl⟩
  go_wp2_with fail
  have hlg := LogsIs.new (w := w4.drewN (m5 + m6)) (t := 22) (cs := #[.slice A1 la.length c1, .slice A4 lc.length c4, .slice none 0 0, .slice A4 lc.length c4]) (n := 4) (p := w4.heap.size)
    (hs := [⟨A1, la.length, c1⟩, ⟨A4, lc.length, c4⟩, ⟨none, 0, 0⟩, ⟨A4, lc.length, c4⟩]) (ls := [la, lc, [], lc])
    ⟨⟨S1.out.drewN_ _, hc1, hm1⟩, ⟨S4.out.drewN_ _, hc4, hm4⟩, ⟨Sl.nil, by simp, by simp⟩, ⟨S4.out.drewN_ _, hc4, hm4⟩, trivial⟩ (Nat.le_refl _) rfl rfl rfl
  refine (agree_any _ _ _ _ _ _ hlg (by omega) (by unfold maxLen; omega)).mono ?_
  rintro _ _ ⟨rfl, m7, rfl⟩
  rw [agreeB_takes lc [la, lc, [], lc] (by
    intro a ha
    simp only [List.mem_cons, List.not_mem_nil, or_false] at ha
    rcases ha with h | h | h | h
    · exact ⟨_, h.trans HLT.out⟩
    · exact ⟨_, h.trans HLS.out⟩
    · exact ⟨0, by rw [h]; rfl⟩
    · exact ⟨_, h.trans HLS.out⟩)]
  obtain ⟨w5, hw5⟩ : ∃ w5, (w4.drewN (m5 + m6)).alloc (Obj.cells #[.slice A1 la.length c1, .slice A4 lc.length c4, .slice none 0 0, .slice A4 lc.length c4] 22) = w5 := ⟨_, rfl⟩
  have hb5 : Below w4.heap.size w4 w5 := by rw [← hw5]; exact (bdN (Below.refl _ _) _).alloc (Nat.le_refl _) _
  have hs1 := S1.out.step hb5; have hs4 := S4.out.step hb5
  have hb5' := HB4.out.trans (hb5.mono HB4.out.size)
  simp only [hw5]
  clear hw5 hlg S1 S4 HB4 hb5
  have S1 := Lib.hid hs1; have S4 := Lib.hid hs4; have HB5 := Lib.hid hb5'; clear hs1 hs4 hb5'
  by_cases h0 : la.length = 0
  · go_wp2_with fail
    refine (wakes_any _).mono ?_
    rintro _ w6 ⟨rfl, hb6⟩
    have HB6 := Lib.hid hb6; clear hb6
    go_wp2_with fail
    go_ret
    exact ⟨rfl, HB5.out.trans (Below.mono ((bdN (Below.refl _ _) m7).trans HB6.out) HB5.out.size)⟩
  · go_wp2_with fail
    refine (copyEntry_is A1 c1 la _ _ (S1.out.drewN_ _) (by omega)).mono ?_
    rintro _ w6 ⟨A6, c6, rfl, ho6, hb6, hc6, hm6⟩
    obtain ⟨k, hk, hkl⟩ : ∃ k : Nat, within at_ la.length = (k : Int) ∧ k < la.length := by
      unfold within
      rw [if_neg (by omega)]
      have h1 := Int.emod_nonneg at_ (b := la.length) (by omega)
      have h2 := Int.emod_lt_of_pos at_ (b := la.length) (by omega)
      exact ⟨(at_ % la.length).toNat, by omega, by omega⟩
    have hA6 : ∃ g, A6 = some ⟨g, 0, none⟩ ∧ w5.heap.size ≤ g ∧ g < w6.heap.size ∧ blkFree w6 g = true := by
      obtain ⟨A', c', hv, hs, _, _, hf⟩ := OwnS.shape ho6
      injection hv with hv1 _ _; subst hv1
      obtain ⟨ad, e, hb, _⟩ := hs.2 (by omega)
      obtain ⟨h1, h2, h3⟩ := hf ad e
      exact ⟨ad.block, by rw [e, ← h2], h1, hb, h3⟩
    obtain ⟨g, rfl, hg5, hg6, hfree⟩ := hA6
    have hs6 := ho6.sl
    obtain ⟨ad, x, hade, _, hxk, hgx⟩ := hs6.at_ hkl
    injection hade with hade; subst hade
    have f2 := cell_off (by omega) (GEntry.at_time hgx)
    have HO6 := Lib.hid ho6; have HB6 := Lib.hid hb6; have HK := Lib.hid hk; have HXK := Lib.hid hxk
    clear hgx hs6
    simp only [add_zeroA, show Enc.n GEntry = 35 from rfl] at f2
    have ffr := frozen_of_free (a := ⟨g, k * 35 + 34, none⟩) hfree
    obtain ⟨ht0, ht1⟩ := HTM.out x (List.mem_of_getElem? hxk)
    clear ho6 hb6 hk hxk hfree
    go_wp2_with fail
    refine (within_is at_ la.length k _ HK.out (by omega) ha ha2).mono ?_
    rintro _ w7 ⟨rfl, rfl⟩
    go_wp2_with fail
    obtain ⟨y, hy⟩ : ∃ y : GEntry, y = ⟨x.name, x.hash, x.time + 10⟩ := ⟨_, rfl⟩
    obtain ⟨lx, hlx⟩ : ∃ lx, la.set k y = lx := ⟨_, rfl⟩
    have hlen3 : lx.length = la.length := by rw [← hlx, List.length_set]
    have ho8 := HO6.out.poke (y := y) (j := 34) (v := .int .u64 (x.time + 10)) HXK.out (by decide) (by rw [hy]; exact entry_time x _)
    rw [hlx, show Enc.n GEntry = 35 from rfl] at ho8
    obtain ⟨w8, hw8⟩ : ∃ w8, w7.setCell ⟨g, k * 35 + 34, none⟩ (.int .u64 (x.time + 10)) = w8 := ⟨_, rfl⟩
    rw [hw8] at ho8
    have hb8 : Below w5.heap.size w5 w8 := by rw [← hw8]; exact ((bdN (Below.refl _ _) m7).trans HB6.out).setCell (by exact hg5) _
    have s8 := ho8.sl
    rw [hlen3] at s8
    have hne : ∀ l, l = la ∨ l = lc → prefixB lx l = false := by
      intro l hl
      refine prefixB_no (k := k) (x := y) (y := x) (by rw [← hlx, List.getElem?_set_self (by omega)]) ?_ (by rw [hy]; intro h; have := congrArg GEntry.time h; simp at this; omega)
      rcases hl with rfl | rfl
      · exact HXK.out
      · rw [← HLC.out, List.getElem?_append_left hkl]; exact HXK.out
    have hs1 := S1.out.step hb8; have hs4 := S4.out.step hb8
    have hb8' := HB5.out.trans (hb8.mono HB5.out.size)
    simp only [hw8]
    clear hw8 S1 S4 HB5 hb8 HB6 HO6 f2 ffr ho8 hlx hy
    have S1 := Lib.hid hs1; have S4 := Lib.hid hs4; have HB8 := Lib.hid hb8'; have S8 := Lib.hid s8; have HN := Lib.hid hne; clear hs1 hs4 hb8' s8 hne
    have hc6' : lx.length ≤ c6 := by omega
    refine (prefix_is false _ A4 _ _ _ _ lx lc w8 w8.heap.size (HN.out lc (.inr rfl)) S8.out S4.out (by unfold maxLen; omega) (by unfold maxLen; omega)).mono ?_
    rintro _ _ ⟨rfl, m9, rfl⟩
    go_wp2_with fail
    have hlg := LogsIs.new (w := w8.drewN m9) (t := 22) (cs := #[.slice A1 la.length c1, .slice (some ⟨g, 0, none⟩) la.length c6]) (n := 2) (p := w8.heap.size)
      (hs := [⟨A1, la.length, c1⟩, ⟨some ⟨g, 0, none⟩, la.length, c6⟩]) (ls := [la, lx])
      ⟨⟨S1.out.drewN_ _, hc1, hm1⟩, ⟨S8.out.drewN_ _, hc6, hm6⟩, trivial⟩ (Nat.le_refl _) rfl rfl rfl
    refine (agree_any _ _ _ _ _ _ hlg (by omega) (by unfold maxLen; omega)).mono ?_
    rintro _ _ ⟨rfl, m10, rfl⟩
    rw [agreeB_no (ls := [la, lx]) (k := 1) (j := 0) rfl rfl (by omega) (HN.out la (.inl rfl))]
    go_wp2_with fail
    have hb11 : Below w8.heap.size w8 (((w8.drewN m9).alloc (.cells #[.slice A1 la.length c1, .slice (some ⟨g, 0, none⟩) la.length c6] 22)).drewN m10) := bdN ((bdN (Below.refl _ _) _).alloc (Nat.le_refl _) _) _
    obtain ⟨w9, hw9⟩ : ∃ w9, ((w8.drewN m9).alloc (.cells #[.slice A1 la.length c1, .slice (some ⟨g, 0, none⟩) la.length c6] 22)).drewN m10 = w9 := ⟨_, rfl⟩
    have hsz9 : w8.heap.size + 1 = w9.heap.size := by rw [← hw9]; simp
    rw [hw9] at hb11
    have hs1 := S1.out.step hb11; have hs4 := S4.out.step hb11; have hs8 := S8.out.step hb11
    have hb9' := HB8.out.trans (hb11.mono HB8.out.size)
    simp only [hw9, hsz9]
    clear hw9 hsz9 hlg S1 S4 S8 HB8 hb11
    have S1 := Lib.hid hs1; have S4 := Lib.hid hs4; have HB9 := Lib.hid hb9'; have S8 := Lib.hid hs8; clear hs1 hs4 hb9' hs8
    have hlg := LogsIs.new (w := w9) (t := 22) (cs := #[.slice A4 lc.length c4, .slice A1 la.length c1, .slice (some ⟨g, 0, none⟩) la.length c6]) (n := 3) (p := w9.heap.size)
      (hs := [⟨A4, lc.length, c4⟩, ⟨A1, la.length, c1⟩, ⟨some ⟨g, 0, none⟩, la.length, c6⟩]) (ls := [lc, la, lx])
      ⟨⟨S4.out, hc4, hm4⟩, ⟨S1.out, hc1, hm1⟩, ⟨S8.out, hc6, hm6⟩, trivial⟩ (Nat.le_refl _) rfl rfl rfl
    refine (agree_any _ _ _ _ _ _ hlg (by omega) (by unfold maxLen; omega)).mono ?_
    rintro _ _ ⟨rfl, m11, rfl⟩
    rw [agreeB_no (ls := [lc, la, lx]) (k := 2) (j := 1) rfl rfl (by omega) (HN.out la (.inl rfl))]
    go_wp2_with fail
    refine (wakes_any _).mono ?_
    rintro _ w10 ⟨rfl, hb10⟩
    have hb10' := HB9.out.trans (((bdN ((Below.refl _ _).alloc (Nat.le_refl _) _) m11).trans (hb10.mono (by simp))).mono HB9.out.size)
    have HB10 := Lib.hid hb10'; clear hb10 hb10'
    go_wp2_with fail
    go_ret
    exact ⟨rfl, HB10.out⟩
end Go.Proofs.Yteockodnfempfaa
/- A map of stamps under construction; AuditTurned returns true, walked. Conditions: those named in each theorem. -/
namespace Go.Proofs.Yteockodnfempfaa
open Go Go.RowKit Go.Gv

theorem _root_.Go.Gv.Sl.grown {α : Type} [Enc α] {w w' : World} {B : Nat} {A : Option Addr} {n : Nat} {xs : List α} {row : Option Nat} (h : Sl α w B A n xs) (hg : w.grownBy w' row) (hB : B ≤ w.heap.size) (hne : 0 < n → ∀ ad, A = some ad → row ≠ some ad.block) : Sl α w' B A n xs := by
  refine ⟨h.1, fun hn => ?_⟩
  obtain ⟨ad, e, hb, hc⟩ := h.2 hn
  exact ⟨ad, e, hb, fun k x hx => (get?_keep (hg.block _ (by rw [add_block]; omega) (by rw [add_block]; exact fun h => hne hn ad e h.symm))).trans (hc k x hx)⟩
theorem _root_.Go.Gv.Sl.block_lt {α : Type} [Enc α] {w : World} {B : Nat} {A : Option Addr} {n : Nat} {xs : List α} (h : Sl α w B A n xs) (hn : 0 < n) {ad : Addr} (ha : A = some ad) : ad.block < B := by
  obtain ⟨ad', e, hb, _⟩ := h.2 hn
  rw [ha] at e; injection e with e; subst e; exact hb
theorem append_spec {α : Type} [Enc α] {w : World} {base B : Nat} {e t : TypeId} {v : Value} {xs ys : List α} {P : Program} {by8 : Nat} {A : Option Addr} {m c : Nat} {ty : TypeId} {r : Result Value} (hrun : (gAppend #[t, t] ty #[v, .slice A m c]).run P w = r) (E : ElemI P t e α by8) (hown : OwnS w base e v xs) (hr : Sl α w B A m ys) (h63 : xs.length + m ≤ maxLen) (hbytes : (xs.length + m) * by8 ≤ 140737488355328) (hbase : base ≤ w.heap.size) :
    ∃ v' w', r = .ok v' w' ∧ OwnS w' base e v' (xs ++ ys) ∧ w.grownBy w' v.ownBlock ∧ (v'.ownBlock = v.ownBlock ∨ v'.ownBlock = some w.heap.size) := by
  obtain ⟨v', w', h, rest⟩ := gAppend_S E hown hr h63 hbytes hbase ty
  exact ⟨v', w', hrun.symm.trans h, rest⟩

@[go_sem ↓ high] theorem mu37s (w : World) (r : Nat) (k : GName) (A : Option Addr) (n c : Nat) : (gMapUpdate 37 (.map (some r)) (GName.val k) (.slice A n c)).run Try.prog w = okU ((mapAt GName Hdr w r).isSome) (mput Try.prog 37 w r k (⟨A, n, c⟩ : Hdr)) (noUpdate Try.prog 37 (.map (some r)) (GName.val k) (Hdr.val ⟨A, n, c⟩) w) := mu_37 w r k ⟨A, n, c⟩

/-- A map of stamps at block r, while a slice of the call's own (in block ob) grows beside it. -/
structure StInv (w : World) (r : Nat) (ob : Option Nat) (m : List (GName × Hdr)) (st : GName → List U64) : Prop where
  hm : mapAt GName Hdr w r = some m
  some_ : ∀ k h, mget m k = some h → Sl U64 w w.heap.size h.a h.len (st k) ∧ h.len ≤ maxLen ∧ (0 < h.len → ∀ ad, h.a = some ad → ob ≠ some ad.block)
  none_ : ∀ k, mget m k = none → st k = []
  ob_ : ob ≠ some r
section
variable {w w' : World} {r : Nat} {ob ob' : Option Nat} {m : List (GName × Hdr)} {st : GName → List U64}
theorem StInv.nil (w : World) (h : ob ≠ some w.heap.size) : StInv (w.alloc (.map #[] 0)) w.heap.size ob [] (fun _ => []) :=
  ⟨mapAt_new _ _ _, fun k h hk => by simp [mget_nil] at hk, fun _ _ => rfl, h⟩
theorem StInv.below (h : StInv w r ob m st) (hb : Below w.heap.size w w') : StInv w' r ob m st :=
  ⟨(mapAt_below hb (mapAt_lt h.hm)).trans h.hm, fun k hd hk => ⟨(h.some_ k hd hk).1.step hb, (h.some_ k hd hk).2⟩, h.none_, h.ob_⟩
theorem StInv.grown (h : StInv w r ob m st) (hg : w.grownBy w' ob) (ho : ob' = ob ∨ ob' = some w.heap.size) : StInv w' r ob' m st := by
  refine ⟨mapAt_grown hg (Ne.symm h.ob_) h.hm, fun k hd hk => ?_, h.none_, ?_⟩
  · obtain ⟨h1, h2, h3⟩ := h.some_ k hd hk
    refine ⟨(h1.grown hg (Nat.le_refl _) h3).more hg.size, h2, fun hn ad ha => ?_⟩
    rcases ho with rfl | rfl
    · exact h3 hn ad ha
    · intro e; injection e with e
      have := h1.block_lt hn ha; omega
  · rcases ho with rfl | rfl
    · exact h.ob_
    · intro e; injection e with e
      have := mapAt_lt h.hm; omega
theorem StInv.put (h : StInv w r ob m st) (k : GName) (hd : Hdr) (xs : List U64) (hx : Sl U64 w w.heap.size hd.a hd.len xs) (hl : hd.len ≤ maxLen) (hne : 0 < hd.len → ∀ ad, hd.a = some ad → ob ≠ some ad.block) :
    StInv (mput Try.prog 37 w r k hd) r ob (mset m k hd) (fun k' => if k' = k then xs else st k') := by
  have hsl : ∀ {A : Option Addr} {n : Nat} {ys : List U64}, Sl U64 w w.heap.size A n ys → Sl U64 (mput Try.prog 37 w r k hd) (mput Try.prog 37 w r k hd).heap.size A n ys := by
    intro A n ys h0
    refine ⟨h0.1, fun hn => ?_⟩
    obtain ⟨ad, e, hb, hc⟩ := h0.2 hn
    exact ⟨ad, e, by rw [mput_size kl25 um37 h.hm]; exact hb, fun j x hj => by rw [mput_get kl25 um37 h.hm]; exact hc j x hj⟩
  refine ⟨mapAt_mput kl25 um37 h.hm k hd, fun k' hd' hk' => ?_, fun k' hk' => ?_, h.ob_⟩
  · by_cases e : k' = k
    · subst e
      rw [mget_mset_same] at hk'; injection hk' with hk'; subst hk'
      rw [if_pos rfl]
      exact ⟨hsl hx, hl, hne⟩
    · rw [mget_mset_other _ _ e] at hk'
      rw [if_neg e]
      obtain ⟨h1, h2⟩ := h.some_ k' hd' hk'
      exact ⟨hsl h1, h2⟩
  · by_cases e : k' = k
    · subst e; rw [mget_mset_same] at hk'; cases hk'
    · rw [mget_mset_other _ _ e] at hk'
      simp only [if_neg e]
      exact h.none_ k' hk'
theorem StInv.is (h : StInv w r ob m st) : StampsIs w w.heap.size (.map (some r)) (fun k => (mget m k).getD default) st :=
  stampsMap h.hm (mapAt_lt h.hm) fun k => by
    cases hk : mget m k with
    | none => rw [h.none_ k hk]; exact ⟨Sl.nil, Nat.zero_le _⟩
    | some hd => exact ⟨(h.some_ k hd hk).1, (h.some_ k hd hk).2.1⟩
end

/-! ### AuditTurned, plain -/
def entE (i : Nat) (t : Int) : GEntry := ⟨⟨i, 1⟩, default, t⟩
def entL (T : List Int) : List GEntry := T.mapIdx entE
def stOf (T : List Int) (k : GName) : List U64 := if k.seq = 1 ∧ 0 ≤ k.client then (match T[k.client.toNat]? with | some t => [⟨t⟩, ⟨t + 1⟩] | none => []) else []
structure TimesOk (T : List Int) (L : Int) : Prop where
  up : ∀ (i j : Nat) (a b : Int), T[i]? = some a → T[j]? = some b → i < j → a + 1 < b
  le : ∀ t ∈ T, 0 ≤ t ∧ t + 1 ≤ L
  l0 : 0 ≤ L
  l6 : L ≤ 6 * T.length
theorem stOf_snoc (T : List Int) (t : Int) : (fun k' => if k' = (⟨(T.length : Int), 1⟩ : GName) then [⟨t⟩, ⟨t + 1⟩] else stOf T k') = stOf (T ++ [t]) := by
  funext k
  by_cases e : k = ⟨(T.length : Int), 1⟩
  · subst e
    simp [stOf]
  · rw [if_neg e]
    unfold stOf
    by_cases hk : k.seq = 1 ∧ 0 ≤ k.client
    · rw [if_pos hk, if_pos hk]
      have hne : k.client.toNat ≠ T.length := fun h => e (by obtain ⟨c, s⟩ := k; simp only at hk h; congr 1 <;> omega)
      by_cases hlt : k.client.toNat < T.length
      · rw [List.getElem?_append_left hlt]
      · rw [List.getElem?_eq_none (by omega), List.getElem?_eq_none (by simp; omega)]
    · rw [if_neg hk, if_neg hk]
theorem TimesOk.snoc {T : List Int} {L x : Int} (h : TimesOk T L) (h0 : 0 ≤ x) (h4 : x ≤ 4) : TimesOk (T ++ [L + 1 + x]) (L + 1 + x + 1) := by
  have hle := h.le; have hl0 := h.l0; have hl6 := h.l6
  refine ⟨fun i j a b hi hj hij => ?_, fun t ht => ?_, by omega, by simp; omega⟩
  · have hj' := (List.getElem?_eq_some_iff.1 hj).1
    simp at hj'
    rw [List.getElem?_append_left (by omega)] at hi
    by_cases hjl : j < T.length
    · rw [List.getElem?_append_left hjl] at hj
      exact h.up i j a b hi hj hij
    · have : j = T.length := by omega
      subst this
      simp at hj
      have := hle a (List.mem_of_getElem? hi)
      omega
  · simp at ht
    rcases ht with ht | rfl
    · have := hle t ht; omega
    · omega
theorem entL_snoc (T : List Int) (t : Int) : entL (T ++ [t]) = entL T ++ [entE T.length t] := by simp [entL, List.mapIdx_append]
theorem entL_get {T : List Int} {i : Nat} {e : GEntry} (h : (entL T)[i]? = some e) : ∃ t, T[i]? = some t ∧ e = entE i t := by
  simp only [entL, List.getElem?_mapIdx, Option.map_eq_some_iff] at h
  obtain ⟨t, h1, h2⟩ := h; exact ⟨t, h1, h2.symm⟩
theorem stOf_at {T : List Int} {i : Nat} {t : Int} (h : T[i]? = some t) : stOf T (entE i t).name = [⟨t⟩, ⟨t + 1⟩] := by simp [stOf, entE, h]
theorem belowB_pair (s t : Int) : belowB [⟨s⟩, ⟨s + 1⟩] [⟨t⟩, ⟨t + 1⟩] = decide (s + 1 < t) := by
  rw [Bool.eq_iff_iff]
  simp [belowB, allBelow]
  omega
theorem fair_entL {T : List Int} {L : Int} (h : TimesOk T L) (ls : List (List GEntry)) (hls : ∀ l ∈ ls, ∃ k, l = (entL T).take k) : fairB ls (stOf T) = true := by
  rw [fairB_iff]
  intro l hl i j b a hi hj hji
  obtain ⟨k, rfl⟩ := hls l hl
  have hi' : (entL T)[i]? = some b := by rw [List.getElem?_take] at hi; split at hi; exact hi; cases hi
  have hj' : (entL T)[j]? = some a := by rw [List.getElem?_take] at hj; split at hj; exact hj; cases hj
  obtain ⟨t, h1, rfl⟩ := entL_get hi'
  obtain ⟨s, h2, rfl⟩ := entL_get hj'
  rw [stOf_at h1, stOf_at h2, belowB_pair, decide_eq_false_iff_not]
  have := h.up j i s t h2 h1 hji
  omega
theorem unfair_swap {T : List Int} {L : Int} (h : TimesOk T L) {i : Nat} {a b : GEntry} (ha : (entL T)[i]? = some a) (hb : (entL T)[i + 1]? = some b) (l : List GEntry) : fairB [l, ((entL T).set i b).set (i + 1) a] (stOf T) = false := by
  obtain ⟨s, h1, rfl⟩ := entL_get ha
  obtain ⟨t, h2, rfl⟩ := entL_get hb
  have l1 := (List.getElem?_eq_some_iff.1 ha).1
  have l2 := (List.getElem?_eq_some_iff.1 hb).1
  refine fairB_no (k := 1) (i := i + 1) (j := i) (l := ((entL T).set i (entE (i + 1) t)).set (i + 1) (entE i s)) rfl ?_ ?_ (by omega) ?_ (a := entE (i + 1) t) (b := entE i s)
  · rw [List.getElem?_set_self (by simpa using l2)]
  · rw [List.getElem?_set_ne (by omega), List.getElem?_set_self l1]
  · rw [stOf_at h1, stOf_at h2, belowB_pair, decide_eq_true_eq]
    exact h.up i (i + 1) s t h1 h2 (by omega)
theorem fair_none (ls : List (List GEntry)) : fairB ls (fun _ => []) = true := by
  rw [fairB_iff]; intro l _ i j b a _ _ _; rfl
end Go.Proofs.Yteockodnfempfaa
/- A whole element written into a slice of the call's own. Conditions: those named in each theorem. -/
namespace Go.Proofs.Yteockodnfempfaa
open Go Go.RowKit Go.Gv

def setSeg : List Value → Nat → List Value → List Value
  | l, _, [] => l
  | l, p, v :: vs => setSeg (l.set p v) (p + 1) vs
theorem setSeg_mid : ∀ (b a pre rest : List Value), a.length = b.length → setSeg (pre ++ (a ++ rest)) pre.length b = pre ++ (b ++ rest)
  | [], a, pre, rest, h => by
    have : a = [] := List.eq_nil_of_length_eq_zero h
    subst this; rfl
  | v :: vs, [], pre, rest, h => by simp at h
  | v :: vs, u :: us, pre, rest, h => by
    unfold setSeg
    rw [List.set_append_right _ _ (Nat.le_refl _), Nat.sub_self, List.cons_append, List.set_cons_zero]
    have := setSeg_mid vs us (pre ++ [v]) rest (by simpa using h)
    simpa using this
theorem putFrom_heap {g o e : Nat} : ∀ (vs : List Value) (i : Nat) (w : World) (cur : Array Value), w.heap[g]? = some (.cells cur e (0, 0)) →
    ∃ cur', (World.putFrom w ⟨g, o, none⟩ i vs).heap[g]? = some (.cells cur' e (0, 0)) ∧ cur'.toList = setSeg cur.toList (o + i) vs ∧ cur'.size = cur.size
  | [], i, w, cur, h => ⟨cur, h, rfl, rfl⟩
  | v :: vs, i, w, cur, h => by
    have ha : (⟨g, o, none⟩ : Addr).add i = ⟨g, o + i, none⟩ := by unfold Addr.add; split <;> simp_all
    obtain ⟨cur', h1, h2, h3⟩ := putFrom_heap (o := o) vs (i + 1) (w.setCell ⟨g, o + i, none⟩ v) _ (heap_setCell_same w g (o + i) cur e v h)
    refine ⟨cur', ?_, ?_, by simpa using h3⟩
    · unfold World.putFrom; rw [ha]; exact h1
    · rw [h2, Array.toList_setIfInBounds]; rfl
theorem putFrom_below {B g o : Nat} (hB : B ≤ g) : ∀ (vs : List Value) (i : Nat) (w0 w : World), Below B w0 w → Below B w0 (World.putFrom w ⟨g, o, none⟩ i vs)
  | [], _, _, _, h => h
  | v :: vs, i, w0, w, h => putFrom_below hB vs (i + 1) w0 _ (h.setCell (by rw [add_block]; exact hB) v)
theorem putCells_below {B g o : Nat} {w0 w : World} (h : Below B w0 w) (hB : B ≤ g) (vs : List Value) : Below B w0 (World.putCells w ⟨g, o, none⟩ vs) := by
  unfold World.putCells; exact putFrom_below hB vs 0 w0 w h
theorem OwnA.put {α : Type} [Enc α] {w : World} {base e c g k : Nat} {xs : List α} (h : OwnA w base e (some ⟨g, 0, none⟩) c xs) (hk : k < xs.length) (y : α) :
    OwnA (World.putCells w ⟨g, k * Enc.n α, none⟩ (Enc.enc y)) base e (some ⟨g, 0, none⟩) c (xs.set k y) ∧ blkFree (World.putCells w ⟨g, k * Enc.n α, none⟩ (Enc.enc y)) g = true := by
  rcases h with ⟨h0, ⟨h1, _⟩ | ⟨g', cap, cur, h1, h2, h3, h4, h5, h6, h7⟩⟩
  · cases h1
  · injection h1 with h1 _ h1c; injection h1 with h1; injection h1 with h1; subst h1; subst h1c
    unfold World.putCells
    obtain ⟨cur', e1, e2, e3⟩ := putFrom_heap (o := k * Enc.n α) (Enc.enc y) 0 w cur h3
    refine ⟨⟨by rw [flat_len, List.length_set], .inr ⟨g, c, cur', by rw [List.length_set], h2, e1, by rw [List.length_set]; exact h4, h5, by rw [e3]; exact h6, ?_⟩⟩, by unfold blkFree; rw [e1]; rfl⟩
    have hx : xs = xs.take k ++ xs[k] :: xs.drop (k + 1) := by rw [List.getElem_cons_drop, List.take_append_drop]
    have hpre : ((xs.take k).flatMap Enc.enc).length = k * Enc.n α := by rw [flat_len, List.length_take, Nat.min_eq_left (by omega)]
    have hcur : cur.toList = (xs.take k).flatMap Enc.enc ++ (Enc.enc xs[k] ++ ((xs.drop (k + 1)).flatMap Enc.enc ++ cur.toList.drop (xs.length * Enc.n α))) := by
      conv => lhs; rw [← List.take_append_drop (xs.length * Enc.n α) cur.toList, h7]
      conv => lhs; rw [hx]
      simp only [List.flatMap_append, List.flatMap_cons, List.append_assoc]
      rw [← hx]
    have hset : xs.set k y = xs.take k ++ y :: xs.drop (k + 1) := by
      rw [List.set_eq_take_append_cons_drop, if_pos hk]
    have e4 : cur'.toList = (xs.set k y).flatMap Enc.enc ++ cur.toList.drop (xs.length * Enc.n α) := by
      have := setSeg_mid (Enc.enc y) (Enc.enc xs[k]) ((xs.take k).flatMap Enc.enc) ((xs.drop (k + 1)).flatMap Enc.enc ++ cur.toList.drop (xs.length * Enc.n α)) (by rw [Enc.len, Enc.len])
      rw [hpre, ← hcur] at this
      rw [e2, Nat.add_zero, this, hset]
      simp only [List.flatMap_append, List.flatMap_cons, List.append_assoc]
    rw [e4, List.length_set, List.take_append_of_le_length (by rw [flat_len, List.length_set]; exact Nat.le_refl _), List.take_of_length_le (by rw [flat_len, List.length_set]; exact Nat.le_refl _)]
end Go.Proofs.Yteockodnfempfaa
/- Slices of slices that the call owns. Conditions: those named in each theorem. -/
namespace Go.Proofs.Yteockodnfempfaa
open Go Go.RowKit Go.Gv

/-- Headers that read as lists, none of them in block ob. -/
def RowsAt {α : Type} [Enc α] (w : World) (ob : Option Nat) : List Hdr → List (List α) → Prop
  | [], [] => True
  | h :: hs, l :: ls => (Sl α w w.heap.size h.a h.len l ∧ h.len ≤ h.cap ∧ h.cap ≤ maxLen ∧ (0 < h.len → ∀ ad, h.a = some ad → ob ≠ some ad.block)) ∧ RowsAt w ob hs ls
  | _, _ => False
section
variable {α : Type} [Enc α] {w w' : World} {ob ob' : Option Nat}
theorem RowsAt.len : ∀ {hs : List Hdr} {ls : List (List α)}, RowsAt w ob hs ls → hs.length = ls.length
  | [], [], _ => rfl
  | _ :: hs, _ :: ls, h => by simp [RowsAt.len h.2]
  | [], _ :: _, h => h.elim
  | _ :: _, [], h => h.elim
theorem RowsAt.get : ∀ {hs : List Hdr} {ls : List (List α)}, RowsAt w ob hs ls → ∀ (i : Nat) (h : Hdr) (l : List α), hs[i]? = some h → ls[i]? = some l → Sl α w w.heap.size h.a h.len l ∧ h.len ≤ h.cap ∧ h.cap ≤ maxLen ∧ (0 < h.len → ∀ ad, h.a = some ad → ob ≠ some ad.block)
  | [], [], _, i, h, l, h1, _ => by simp at h1
  | x :: hs, y :: ls, H, 0, h, l, h1, h2 => by
    simp at h1 h2; subst h1; subst h2; exact H.1
  | x :: hs, y :: ls, H, i + 1, h, l, h1, h2 => RowsAt.get H.2 i h l (by simpa using h1) (by simpa using h2)
theorem RowsAt.step (hb : Below w.heap.size w w') : ∀ {hs : List Hdr} {ls : List (List α)}, RowsAt w ob hs ls → RowsAt w' ob hs ls
  | [], [], h => h
  | _ :: _, _ :: _, h => ⟨⟨h.1.1.stepB hb, h.1.2⟩, RowsAt.step hb h.2⟩
  | [], _ :: _, h => h.elim
  | _ :: _, [], h => h.elim
theorem RowsAt.grown (hg : w.grownBy w' ob) (ho : ob' = ob ∨ ob' = some w.heap.size) : ∀ {hs : List Hdr} {ls : List (List α)}, RowsAt w ob hs ls → RowsAt w' ob' hs ls
  | [], [], h => h
  | x :: _, _ :: _, h => by
    obtain ⟨⟨h1, h2, h3, h4⟩, hr⟩ := h
    refine ⟨⟨(h1.grown hg (Nat.le_refl _) h4).more hg.size, h2, h3, fun hn ad ha => ?_⟩, RowsAt.grown hg ho hr⟩
    rcases ho with rfl | rfl
    · exact h4 hn ad ha
    · intro e; injection e with e
      have := h1.block_lt hn ha; omega
  | [], _ :: _, h => h.elim
  | _ :: _, [], h => h.elim
theorem RowsAt.snoc {h : Hdr} {l : List α} (hl : Sl α w w.heap.size h.a h.len l ∧ h.len ≤ h.cap ∧ h.cap ≤ maxLen ∧ (0 < h.len → ∀ ad, h.a = some ad → ob ≠ some ad.block)) : ∀ {hs : List Hdr} {ls : List (List α)}, RowsAt w ob hs ls → RowsAt w ob (hs ++ [h]) (ls ++ [l])
  | [], [], _ => ⟨hl, trivial⟩
  | _ :: _, _ :: _, h => ⟨h.1, RowsAt.snoc hl h.2⟩
  | [], _ :: _, h => h.elim
  | _ :: _, [], h => h.elim

/-- A slice of slices, all of the call's own. -/
def OwnRows (α : Type) [Enc α] (w : World) (base : Nat) (e : TypeId) (v : Value) (ls : List (List α)) : Prop := ∃ hs : List Hdr, OwnS w base e v hs ∧ RowsAt w v.ownBlock hs ls
variable {base : Nat} {e : TypeId} {v : Value} {ls : List (List α)}
theorem OwnRows.nil (w : World) (base : Nat) (e : TypeId) : OwnRows α w base e (.slice none 0 0) [] := ⟨[], OwnS.nil _ _ _, trivial⟩
theorem OwnRows.step (h : OwnRows α w base e v ls) (hb : Below w.heap.size w w') : OwnRows α w' base e v ls := by
  obtain ⟨hs, h1, h2⟩ := h
  exact ⟨hs, h1.step hb, h2.step hb⟩
theorem OwnRows.ownA (h : OwnRows α w base e v ls) : ∃ (A : Option Addr) (c : Nat), v = .slice A ls.length c ∧ ls.length ≤ c ∧ c ≤ maxLen := by
  obtain ⟨hs, h1, h2⟩ := h
  obtain ⟨A, c, rfl, _, hc, hm⟩ := OwnS.ownA h1
  exact ⟨A, c, by rw [h2.len], by rw [← h2.len]; exact hc, hm⟩
end
theorem OwnRows.logs {w : World} {base : Nat} {e : TypeId} {A : Option Addr} {n c : Nat} {ls : List (List GEntry)} (h : OwnRows GEntry w base e (.slice A n c) ls) : LogsIs w w.heap.size A n ls := by
  obtain ⟨hs, h1, h2⟩ := h
  obtain ⟨A', c', hv, h3, hc, hm⟩ := OwnS.ownA h1
  injection hv with e1 e2 e3
  subst e1; subst e2
  exact ⟨hs, h3.sl, h2.len, fun i hd l a b => by
    obtain ⟨g1, g2, g3, _⟩ := h2.get i hd l a b
    exact ⟨g1, g2, g3⟩⟩
theorem LogsIs.stepB {w w' : World} {A : Option Addr} {n : Nat} {ls : List (List GEntry)} (h : LogsIs w w.heap.size A n ls) (hb : Below w.heap.size w w') : LogsIs w' w'.heap.size A n ls := by
  obtain ⟨hs, h1, h2, h3⟩ := h
  exact ⟨hs, h1.stepB hb, h2, fun i hd l a b => ⟨(h3 i hd l a b).1.stepB hb, (h3 i hd l a b).2⟩⟩
theorem StInv.step {w w' : World} {r : Nat} {ob : Option Nat} {m : List (GName × Hdr)} {st : GName → List U64} (h : StInv w r ob m st) (hb : Below w.heap.size w w') : StInv w' r ob m st := h.below hb
theorem OwnA.stepB {α : Type} [Enc α] {w w' : World} {base : Nat} {e : TypeId} {A : Option Addr} {c : Nat} {xs : List α} (h : OwnA w base e A c xs) (hb : Below w.heap.size w w') : OwnA w' base e A c xs := OwnS.step h hb
end Go.Proofs.Yteockodnfempfaa
/- Where own lists lie. Conditions: those named in each theorem. -/
namespace Go.Gv
open Go
theorem addN (blk off n : Nat) : (⟨blk, off, none⟩ : Addr).add n = ⟨blk, off + n, none⟩ := by
  unfold Addr.add
  by_cases h : n = 0
  · subst h; rfl
  · rw [if_neg h]
end Go.Gv
namespace Go.Proofs.Yteockodnfempfaa
open Go Go.RowKit Go.Gv
theorem OwnA.place {α : Type} [Enc α] {w : World} {base c : Nat} {e : TypeId} {A : Option Addr} {xs : List α} (h : OwnA w base e A c xs) (hn : 0 < xs.length) :
    ∃ g, A = some ⟨g, 0, none⟩ ∧ base ≤ g ∧ g < w.heap.size ∧ blkFree w g = true := by
  rcases h with ⟨_, ⟨h1, h2⟩ | ⟨g, cap, cur, h1, h2, h3, _⟩⟩
  · omega
  · injection h1 with h1 _ _
    refine ⟨g, h1, h2, ?_, by unfold blkFree; rw [h3]; rfl⟩
    exact (Array.getElem?_eq_some_iff.1 h3).1
end Go.Proofs.Yteockodnfempfaa
