/- The struct types of this seat as Lean types, with the runs of single operations over them. Conditions: those named in each theorem. -/
import Derived.Test.YteockodnfempfaaRows
import Derived.Test.YteockodnfempfaaAp
namespace Go.Proofs.Yteockodnfempfaa
open Go Go.RowKit Go.Gv
set_option linter.unusedSimpArgs false

theorem na3 : aggT Try.prog 3 = false := by kernel_rfl
theorem us3 : (Try.prog.underlying 3).isSome = true := by kernel_rfl
theorem uk3 : Try.prog.underlying 3 = some (.int .i64) := by kernel_rfl
theorem na5 : aggT Try.prog 5 = false := by kernel_rfl
theorem us5 : (Try.prog.underlying 5).isSome = true := by kernel_rfl
theorem uk5 : Try.prog.underlying 5 = some (.int .u8) := by kernel_rfl
theorem na28 : aggT Try.prog 28 = false := by kernel_rfl
theorem us28 : (Try.prog.underlying 28).isSome = true := by kernel_rfl
theorem uk28 : Try.prog.underlying 28 = some (.int .u64) := by kernel_rfl
@[go_sem ↓ high] theorem xl_GHash (ρ : Operand → Value) (dst : Option Tmp) (x : Operand) (ty : TypeId) (pos : String) (after : Array Edge) (guard : Option (Nat × Bool)) : execOp ρ { dst, op := .load 27 x, type := ty, pos, after, guard } = (do pure (.value (← gLoad 27 (ρ x)))) := ex_load ..
@[go_sem ↓ high] theorem xs_GHash (ρ : Operand → Value) (dst : Option Tmp) (x y : Operand) (ty : TypeId) (pos : String) (after : Array Edge) (guard : Option (Nat × Bool)) : execOp ρ { dst, op := .store 27 x y, type := ty, pos, after, guard } = (do gStore 27 (ρ x) (ρ y); pure .skip) := ex_store ..
@[go_sem ↓ high] theorem xb_GHash (ρ : Operand → Value) (dst : Option Tmp) (x : Operand) (ty : TypeId) (pos : String) (after : Array Edge) (guard : Option (Nat × Bool)) : execOp ρ { dst, op := .box 27 x, type := ty, pos, after, guard } = (do pure (.value (← gBox 27 (ρ x)))) := ex_box ..
@[go_sem ↓ high] theorem xa_GHash (ρ : Operand → Value) (dst : Option Tmp) (ty : TypeId) (pos : String) (after : Array Edge) (guard : Option (Nat × Bool)) : execOp ρ { dst, op := .alloc 27, type := ty, pos, after, guard } = (do pure (.value (← gAlloc 27))) := ex_alloc ..
theorem ag27 : aggT Try.prog 27 = true := by kernel_rfl
theorem sz27 : sizeT Try.prog 27 = 32 := by kernel_rfl
section
variable (w : World)
@[go_sem ↓ high] theorem ld_GHash (a : Addr) : (gLoad 27 (.pointer (some a))).run Try.prog w = ofOpt ((get? GHash w a).map GHash.val) w (noLoad Try.prog 27 a w) := by
  unfold gLoad; exact run_loadAt_opt ag27 sz27 GHash.val GHash.val_eq
@[go_sem ↓ high] theorem st_GHash (a : Addr) (x : GHash) : (gStore 27 (.pointer (some a)) (GHash.val x)).run Try.prog w = okU' ((get? GHash w a).isSome && blkFree w a.block) (World.putCells w a (GHash.enc x)) (noStore Try.prog 27 (.pointer (some a)) (GHash.val x) w) := run_gStore_any sz27 GHash.val GHash.val_eq w a x
@[go_sem ↓ high] theorem bx_GHash (x : GHash) : (gBox 27 (GHash.val x)).run Try.prog w = .ok (.pointer (some ⟨w.heap.size, 0, none⟩)) (w.alloc (.cells (GHash.enc x).toArray 27)) := by
  rw [GHash.val_eq]; exact run_gBox _ w
end
theorem uu27 : Try.prog.underlying 27 = some (.array 32 5) := by kernel_rfl
theorem sz5 : sizeT Try.prog 5 = 1 := by kernel_rfl
theorem eq_GHash (w : World) (d : Nat) (x y : GHash) : (Op.equalIn (d + 2) 27 (GHash.val x) (GHash.val y)).run Try.prog w = .ok (decide (x = y)) w := eq_hash uu27 sz5 na5 uk5 w d x y
@[go_sem ↓ high] theorem xq_GHash (ρ : Operand → Value) (dst : Option Tmp) (x y : Operand) (ty yt : TypeId) (pos : String) (after : Array Edge) (guard : Option (Nat × Bool)) : execOp ρ { dst, op := .binOp .eql 27 x y yt, type := ty, pos, after, guard } = (do pure (.value (← gBin .eql 27 x y (ρ x) (ρ y)))) := ex_eql ..
@[go_sem ↓ high] theorem xn_GHash (ρ : Operand → Value) (dst : Option Tmp) (x y : Operand) (ty yt : TypeId) (pos : String) (after : Array Edge) (guard : Option (Nat × Bool)) : execOp ρ { dst, op := .binOp .neq 27 x y yt, type := ty, pos, after, guard } = (do pure (.value (← gBin .neq 27 x y (ρ x) (ρ y)))) := ex_neq ..
theorem eg_GHash : Try.prog.eqGuardType Try.prog.depth 27 = false := by kernel_rfl
@[go_sem ↓ high] theorem eql_GHash (w : World) (ox oy : Operand) (x y : GHash) : (gBin .eql 27 ox oy (GHash.val x) (GHash.val y)).run Try.prog w = .ok (.bool (decide (x = y))) w := by
  have h2 := eq_GHash w 9998 x y
  rw [GHash.val_eq, GHash.val_eq] at h2 ⊢
  have h := run_eqGuard_agg (P := Try.prog) w .eql 27 ox oy (Enc.enc x).toArray (Enc.enc y).toArray eg_GHash
  unfold gBin
  simp only [Sem.run_bind, h, Result.andThen_ok, run_eql_struct, h2]
@[go_sem ↓ high] theorem neq_GHash (w : World) (ox oy : Operand) (x y : GHash) : (gBin .neq 27 ox oy (GHash.val x) (GHash.val y)).run Try.prog w = .ok (.bool (!decide (x = y))) w := by
  have h2 := eq_GHash w 9998 x y
  rw [GHash.val_eq, GHash.val_eq] at h2 ⊢
  have h := run_eqGuard_agg (P := Try.prog) w .neq 27 ox oy (Enc.enc x).toArray (Enc.enc y).toArray eg_GHash
  unfold gBin
  simp only [Sem.run_bind, h, Result.andThen_ok, run_neq_struct, h2]

/-! ### gavel/api.Name -/
structure GName where
  client : Int
  seq : Int
deriving DecidableEq
instance : Inhabited GName := ⟨⟨0, 0⟩⟩
def GName.enc (x : GName) : List Value := [(.int .i64 x.client)] ++ ([(.int .i64 x.seq)])
theorem GName.enc_len (x : GName) : x.enc.length = 2 := by simp [GName.enc]
theorem GName.enc_one (x : GName) : ∀ u ∈ x.enc, u.oneCell' = true := by
  intro u hu
  simp only [GName.enc, List.mem_append, List.mem_singleton] at hu
  rcases hu with hu | hu
  · subst hu; rfl
  · subst hu; rfl
theorem GName.enc_inj (x y : GName) (h : x.enc = y.enc) : x = y := by
  obtain ⟨a0, a1⟩ := x
  obtain ⟨b0, b1⟩ := y
  simp only [GName.enc] at h
  obtain ⟨p0, q0⟩ := List.append_inj h (rfl)
  have e0 : a0 = b0 := by have := List.head_eq_of_cons_eq p0; injection this
  have e1 : a1 = b1 := by have := List.head_eq_of_cons_eq q0; injection this
  rw [e0, e1]
instance : Enc GName where
  n := 2
  enc := GName.enc
  pos := by omega
  len := GName.enc_len
  one := GName.enc_one
  inj := GName.enc_inj
@[go_sem] theorem GName.n_eq : Enc.n GName = 2 := rfl
@[irreducible] def GName.val (x : GName) : Value := .agg x.enc.toArray
theorem GName.val_eq (x : GName) : GName.val x = .agg (Enc.enc x).toArray := by unfold GName.val; rfl
theorem GName.ext_all (x y : GName) : x = y ↔ x.client = y.client ∧ x.seq = y.seq := by
  constructor
  · intro h; cases h; simp
  · intro h; cases x; cases y; simp_all
theorem uu25 : Try.prog.underlying 25 = some (.struct (Try.prog.fieldsOf 25)) := by kernel_rfl
theorem st25 : Try.prog.stoodInHeld 25 = false := by kernel_rfl
theorem fl25 : fieldTO Try.prog 25 = [(3, 0), (3, 1)] := by kernel_rfl
theorem nb25 : noBlank Try.prog 25 = true := by kernel_rfl
@[go_sem ↓ high] theorem xl_GName (ρ : Operand → Value) (dst : Option Tmp) (x : Operand) (ty : TypeId) (pos : String) (after : Array Edge) (guard : Option (Nat × Bool)) : execOp ρ { dst, op := .load 25 x, type := ty, pos, after, guard } = (do pure (.value (← gLoad 25 (ρ x)))) := ex_load ..
@[go_sem ↓ high] theorem xs_GName (ρ : Operand → Value) (dst : Option Tmp) (x y : Operand) (ty : TypeId) (pos : String) (after : Array Edge) (guard : Option (Nat × Bool)) : execOp ρ { dst, op := .store 25 x y, type := ty, pos, after, guard } = (do gStore 25 (ρ x) (ρ y); pure .skip) := ex_store ..
@[go_sem ↓ high] theorem xb_GName (ρ : Operand → Value) (dst : Option Tmp) (x : Operand) (ty : TypeId) (pos : String) (after : Array Edge) (guard : Option (Nat × Bool)) : execOp ρ { dst, op := .box 25 x, type := ty, pos, after, guard } = (do pure (.value (← gBox 25 (ρ x)))) := ex_box ..
@[go_sem ↓ high] theorem xa_GName (ρ : Operand → Value) (dst : Option Tmp) (ty : TypeId) (pos : String) (after : Array Edge) (guard : Option (Nat × Bool)) : execOp ρ { dst, op := .alloc 25, type := ty, pos, after, guard } = (do pure (.value (← gAlloc 25))) := ex_alloc ..
theorem ag25 : aggT Try.prog 25 = true := by kernel_rfl
theorem sz25 : sizeT Try.prog 25 = 2 := by kernel_rfl
section
variable (w : World)
@[go_sem ↓ high] theorem ld_GName (a : Addr) : (gLoad 25 (.pointer (some a))).run Try.prog w = ofOpt ((get? GName w a).map GName.val) w (noLoad Try.prog 25 a w) := by
  unfold gLoad; exact run_loadAt_opt ag25 sz25 GName.val GName.val_eq
@[go_sem ↓ high] theorem st_GName (a : Addr) (x : GName) : (gStore 25 (.pointer (some a)) (GName.val x)).run Try.prog w = okU' ((get? GName w a).isSome && blkFree w a.block) (World.putCells w a (GName.enc x)) (noStore Try.prog 25 (.pointer (some a)) (GName.val x) w) := run_gStore_any sz25 GName.val GName.val_eq w a x
@[go_sem ↓ high] theorem bx_GName (x : GName) : (gBox 25 (GName.val x)).run Try.prog w = .ok (.pointer (some ⟨w.heap.size, 0, none⟩)) (w.alloc (.cells (GName.enc x).toArray 25)) := by
  rw [GName.val_eq]; exact run_gBox _ w
end
theorem lk25_0 (x : GName) : x.enc[0]? = some (.int .i64 x.client) := by
  simp [GName.enc, List.getElem?_append]
theorem pt25_0 (w : World) (x : GName) : (part 3 x.enc.toArray 0).run Try.prog w = .ok (.int .i64 x.client) w := run_part_one na3 us3 (lk25_0 x)
@[go_sem ↓ high] theorem fd25_0 (w : World) (x : GName) : (gField 25 (GName.val x) 0).run Try.prog w = .ok (.int .i64 x.client) w := by
  rw [GName.val_eq]
  exact run_gField w uu25 (by rw [fl25]; rfl) (pt25_0 w x)
theorem lk25_1 (x : GName) : x.enc[1]? = some (.int .i64 x.seq) := by
  simp [GName.enc, List.getElem?_append]
theorem pt25_1 (w : World) (x : GName) : (part 3 x.enc.toArray 1).run Try.prog w = .ok (.int .i64 x.seq) w := run_part_one na3 us3 (lk25_1 x)
@[go_sem ↓ high] theorem fd25_1 (w : World) (x : GName) : (gField 25 (GName.val x) 1).run Try.prog w = .ok (.int .i64 x.seq) w := by
  rw [GName.val_eq]
  exact run_gField w uu25 (by rw [fl25]; rfl) (pt25_1 w x)
@[go_sem ↓ high] theorem xf_GName (ρ : Operand → Value) (dst : Option Tmp) (x : Operand) (i : Nat) (ty : TypeId) (pos : String) (after : Array Edge) (guard : Option (Nat × Bool)) : execOp ρ { dst, op := .field 25 x i, type := ty, pos, after, guard } = (do pure (.value (← gField 25 (ρ x) i))) := ex_field ..
theorem zr25 : zeroT Try.prog 25 = some (.agg (GName.enc default).toArray) := by kernel_rfl
@[go_sem ↓ high] theorem al_GName (w : World) : (gAlloc 25).run Try.prog w = .ok (.pointer (some ⟨w.heap.size, 0, none⟩)) (w.alloc (.cells (GName.enc default).toArray 25)) := run_zero_alloc zr25 w
@[go_sem] theorem pc_GName (w : World) (n : Nat) (x z : GName) (hn : n = w.heap.size) : World.putCells (w.alloc (.cells (GName.enc z).toArray 25)) ⟨n, 0, none⟩ (GName.enc x) = w.alloc (.cells (GName.enc x).toArray 25) := putCells_top x z hn
theorem GName.at_client {w : World} {a : Addr} {x : GName} (h : get? GName w a = some x) : w.cell? (a.add 0) = some (.int .i64 x.client) := (get?_iff.1 h) _ _ (lk25_0 x)
theorem GName.at_seq {w : World} {a : Addr} {x : GName} (h : get? GName w a = some x) : w.cell? (a.add 1) = some (.int .i64 x.seq) := (get?_iff.1 h) _ _ (lk25_1 x)
@[go_sem] theorem nl25_0 (x : GName) : x.enc[0]? = some (.int .i64 x.client) := by
  have h := (GName.at_client (get?_new (w := (default : World)) 25 x))
  simp only [Addr.add_lit, Nat.zero_add, Nat.reduceAdd, World.cell?_alloc_new, List.getElem?_toArray] at h
  exact h
@[go_sem] theorem nl25_1 (x : GName) : x.enc[1]? = some (.int .i64 x.seq) := by
  have h := (GName.at_seq (get?_new (w := (default : World)) 25 x))
  simp only [Addr.add_lit, Nat.zero_add, Nat.reduceAdd, World.cell?_alloc_new, List.getElem?_toArray] at h
  exact h
@[go_sem] theorem nw25 (w : World) (n : Nat) (x : GName) (hn : n = w.heap.size) : get? GName (w.alloc (.cells (GName.enc x).toArray 25)) ⟨n, 0, none⟩ = some x := by
  subst hn; exact get?_new 25 x
theorem pl25 : ((Try.prog.fieldsOf 25).toList.mapM fun f => (Try.prog.info? f.type).map fun i => (f.offset, i.size)) = some [(0, 1), (1, 1)] := by kernel_rfl
theorem fs25_0 (x : GName) (v : Int) (rest : List (Nat × Value)) : Instr.fill (fun i => ([(0, 1), (1, 1)] : List (Nat × Nat))[i]?) x.enc.toArray ((0, (.int .i64 v)) :: rest) = Instr.fill (fun i => ([(0, 1), (1, 1)] : List (Nat × Nat))[i]?) ({ x with client := v } : GName).enc.toArray rest := by
  have h := fill_seg [(0, 1), (1, 1)] 0 0 1 rfl (([] : List Value)) ([(.int .i64 x.client)]) ([(.int .i64 x.seq)] ++ (([] : List Value))) ([(.int .i64 v)]) (.int .i64 v) rest (rfl) (by simp) (by simp) (by simp)
  have e1 : x.enc = (([] : List Value)) ++ ([(.int .i64 x.client)] ++ ([(.int .i64 x.seq)] ++ (([] : List Value)))) := by simp [GName.enc]
  have e2 : ({ x with client := v } : GName).enc = (([] : List Value)) ++ ([(.int .i64 v)] ++ ([(.int .i64 x.seq)] ++ (([] : List Value)))) := by simp [GName.enc]
  rw [e1, e2]; exact h
theorem fs25_1 (x : GName) (v : Int) (rest : List (Nat × Value)) : Instr.fill (fun i => ([(0, 1), (1, 1)] : List (Nat × Nat))[i]?) x.enc.toArray ((1, (.int .i64 v)) :: rest) = Instr.fill (fun i => ([(0, 1), (1, 1)] : List (Nat × Nat))[i]?) ({ x with seq := v } : GName).enc.toArray rest := by
  have h := fill_seg [(0, 1), (1, 1)] 1 1 1 rfl (([] : List Value) ++ ([(.int .i64 x.client)])) ([(.int .i64 x.seq)]) (([] : List Value)) ([(.int .i64 v)]) (.int .i64 v) rest (rfl) (by simp) (by simp) (by simp)
  have e1 : x.enc = (([] : List Value) ++ ([(.int .i64 x.client)])) ++ ([(.int .i64 x.seq)] ++ (([] : List Value))) := by simp [GName.enc]
  have e2 : ({ x with seq := v } : GName).enc = (([] : List Value) ++ ([(.int .i64 x.client)])) ++ ([(.int .i64 v)] ++ (([] : List Value))) := by simp [GName.enc]
  rw [e1, e2]; exact h
@[go_sem ↓ high] theorem xd_GName (ρ : Operand → Value) (dst : Option Tmp) (ps : Array (Nat × Operand)) (ty : TypeId) (pos : String) (after : Array Edge) (guard : Option (Nat × Bool)) : execOp ρ { dst, op := .build 25 ps, type := ty, pos, after, guard } = (do pure (.value (← gBuild 25 (ps.map fun (i, x) => (i, ρ x))))) := ex_build ..
@[go_sem ↓ high] theorem bd25_0 (w : World) (v0 : Int) (v1 : Int) : (gBuild 25 #[(0, (.int .i64 v0)), (1, (.int .i64 v1))]).run Try.prog w = .ok (GName.val ⟨v0, v1⟩) w := by
  rw [GName.val_eq]
  refine run_gBuild_of uu25 zr25 pl25 ?_ w
  show Instr.fill _ (GName.enc default).toArray [(0, (.int .i64 v0)), (1, (.int .i64 v1))] = _
  rw [fs25_0, fs25_1]; rfl
theorem eq_GName (w : World) (d : Nat) (x y : GName) : (Op.equalIn (d + 2) 25 (GName.val x) (GName.val y)).run Try.prog w = .ok (decide (x = y)) w := by
  have q0 : ∀ a b, (Op.equalIn (d + 1) 3 (.int .i64 a) (.int .i64 b)).run Try.prog w = .ok (decide (a = b)) w := fun a b => by rw [run_equalIn_int w (d + 0) 3 .i64 .i64 a b uk3]; congr 1
  have q1 : ∀ a b, (Op.equalIn (d + 1) 3 (.int .i64 a) (.int .i64 b)).run Try.prog w = .ok (decide (a = b)) w := fun a b => by rw [run_equalIn_int w (d + 0) 3 .i64 .i64 a b uk3]; congr 1
  have h := run_equalIn_fields (d + 1) x.enc.toArray y.enc.toArray w uu25 st25 nb25
  rw [fl25] at h
  unfold GName.val
  refine h.trans ?_
  clear h
  simp only [eqFs, Sem.run_bind, pt25_0, pt25_1, q0, q1, Result.andThen_ok, Sem.run_ite, Sem.run_pure]
  have he : decide (x = y) = (decide (x.client = y.client) && (decide (x.seq = y.seq))) := by
    rw [Bool.eq_iff_iff]; simp only [Bool.and_eq_true, decide_eq_true_eq]; exact GName.ext_all x y
  rw [he]
  generalize decide (x.client = y.client) = c0; generalize decide (x.seq = y.seq) = c1
  cases c0 <;> cases c1 <;> simp
@[go_sem ↓ high] theorem xq_GName (ρ : Operand → Value) (dst : Option Tmp) (x y : Operand) (ty yt : TypeId) (pos : String) (after : Array Edge) (guard : Option (Nat × Bool)) : execOp ρ { dst, op := .binOp .eql 25 x y yt, type := ty, pos, after, guard } = (do pure (.value (← gBin .eql 25 x y (ρ x) (ρ y)))) := ex_eql ..
@[go_sem ↓ high] theorem xn_GName (ρ : Operand → Value) (dst : Option Tmp) (x y : Operand) (ty yt : TypeId) (pos : String) (after : Array Edge) (guard : Option (Nat × Bool)) : execOp ρ { dst, op := .binOp .neq 25 x y yt, type := ty, pos, after, guard } = (do pure (.value (← gBin .neq 25 x y (ρ x) (ρ y)))) := ex_neq ..
theorem eg_GName : Try.prog.eqGuardType Try.prog.depth 25 = false := by kernel_rfl
@[go_sem ↓ high] theorem eql_GName (w : World) (ox oy : Operand) (x y : GName) : (gBin .eql 25 ox oy (GName.val x) (GName.val y)).run Try.prog w = .ok (.bool (decide (x = y))) w := by
  have h2 := eq_GName w 9998 x y
  rw [GName.val_eq, GName.val_eq] at h2 ⊢
  have h := run_eqGuard_agg (P := Try.prog) w .eql 25 ox oy (Enc.enc x).toArray (Enc.enc y).toArray eg_GName
  unfold gBin
  simp only [Sem.run_bind, h, Result.andThen_ok, run_eql_struct, h2]
@[go_sem ↓ high] theorem neq_GName (w : World) (ox oy : Operand) (x y : GName) : (gBin .neq 25 ox oy (GName.val x) (GName.val y)).run Try.prog w = .ok (.bool (!decide (x = y))) w := by
  have h2 := eq_GName w 9998 x y
  rw [GName.val_eq, GName.val_eq] at h2 ⊢
  have h := run_eqGuard_agg (P := Try.prog) w .neq 25 ox oy (Enc.enc x).toArray (Enc.enc y).toArray eg_GName
  unfold gBin
  simp only [Sem.run_bind, h, Result.andThen_ok, run_neq_struct, h2]

/-! ### gavel/api.Entry -/
structure GEntry where
  name : GName
  hash : GHash
  time : Int
deriving DecidableEq
instance : Inhabited GEntry := ⟨⟨default, default, 0⟩⟩
def GEntry.enc (x : GEntry) : List Value := x.name.enc ++ (x.hash.enc ++ ([(.int .u64 x.time)]))
theorem GEntry.enc_len (x : GEntry) : x.enc.length = 35 := by simp [GEntry.enc, GHash.enc_len, GName.enc_len]
theorem GEntry.enc_one (x : GEntry) : ∀ u ∈ x.enc, u.oneCell' = true := by
  intro u hu
  simp only [GEntry.enc, List.mem_append, List.mem_singleton] at hu
  rcases hu with hu | hu | hu
  · exact Enc.one (α := GName) _ _ hu
  · exact Enc.one (α := GHash) _ _ hu
  · subst hu; rfl
theorem GEntry.enc_inj (x y : GEntry) (h : x.enc = y.enc) : x = y := by
  obtain ⟨a0, a1, a2⟩ := x
  obtain ⟨b0, b1, b2⟩ := y
  simp only [GEntry.enc] at h
  obtain ⟨p0, q0⟩ := List.append_inj h (by simp [GName.enc_len])
  have e0 := Enc.inj (α := GName) _ _ p0
  obtain ⟨p1, q1⟩ := List.append_inj q0 (by simp [GHash.enc_len])
  have e1 := Enc.inj (α := GHash) _ _ p1
  have e2 : a2 = b2 := by have := List.head_eq_of_cons_eq q1; injection this
  rw [e0, e1, e2]
instance : Enc GEntry where
  n := 35
  enc := GEntry.enc
  pos := by omega
  len := GEntry.enc_len
  one := GEntry.enc_one
  inj := GEntry.enc_inj
@[go_sem] theorem GEntry.n_eq : Enc.n GEntry = 35 := rfl
@[irreducible] def GEntry.val (x : GEntry) : Value := .agg x.enc.toArray
theorem GEntry.val_eq (x : GEntry) : GEntry.val x = .agg (Enc.enc x).toArray := by unfold GEntry.val; rfl
theorem GEntry.ext_all (x y : GEntry) : x = y ↔ x.name = y.name ∧ x.hash = y.hash ∧ x.time = y.time := by
  constructor
  · intro h; cases h; simp
  · intro h; cases x; cases y; simp_all
theorem uu30 : Try.prog.underlying 30 = some (.struct (Try.prog.fieldsOf 30)) := by kernel_rfl
theorem st30 : Try.prog.stoodInHeld 30 = false := by kernel_rfl
theorem fl30 : fieldTO Try.prog 30 = [(25, 0), (27, 2), (28, 34)] := by kernel_rfl
theorem nb30 : noBlank Try.prog 30 = true := by kernel_rfl
@[go_sem ↓ high] theorem xl_GEntry (ρ : Operand → Value) (dst : Option Tmp) (x : Operand) (ty : TypeId) (pos : String) (after : Array Edge) (guard : Option (Nat × Bool)) : execOp ρ { dst, op := .load 30 x, type := ty, pos, after, guard } = (do pure (.value (← gLoad 30 (ρ x)))) := ex_load ..
@[go_sem ↓ high] theorem xs_GEntry (ρ : Operand → Value) (dst : Option Tmp) (x y : Operand) (ty : TypeId) (pos : String) (after : Array Edge) (guard : Option (Nat × Bool)) : execOp ρ { dst, op := .store 30 x y, type := ty, pos, after, guard } = (do gStore 30 (ρ x) (ρ y); pure .skip) := ex_store ..
@[go_sem ↓ high] theorem xb_GEntry (ρ : Operand → Value) (dst : Option Tmp) (x : Operand) (ty : TypeId) (pos : String) (after : Array Edge) (guard : Option (Nat × Bool)) : execOp ρ { dst, op := .box 30 x, type := ty, pos, after, guard } = (do pure (.value (← gBox 30 (ρ x)))) := ex_box ..
@[go_sem ↓ high] theorem xa_GEntry (ρ : Operand → Value) (dst : Option Tmp) (ty : TypeId) (pos : String) (after : Array Edge) (guard : Option (Nat × Bool)) : execOp ρ { dst, op := .alloc 30, type := ty, pos, after, guard } = (do pure (.value (← gAlloc 30))) := ex_alloc ..
theorem ag30 : aggT Try.prog 30 = true := by kernel_rfl
theorem sz30 : sizeT Try.prog 30 = 35 := by kernel_rfl
section
variable (w : World)
@[go_sem ↓ high] theorem ld_GEntry (a : Addr) : (gLoad 30 (.pointer (some a))).run Try.prog w = ofOpt ((get? GEntry w a).map GEntry.val) w (noLoad Try.prog 30 a w) := by
  unfold gLoad; exact run_loadAt_opt ag30 sz30 GEntry.val GEntry.val_eq
@[go_sem ↓ high] theorem st_GEntry (a : Addr) (x : GEntry) : (gStore 30 (.pointer (some a)) (GEntry.val x)).run Try.prog w = okU' ((get? GEntry w a).isSome && blkFree w a.block) (World.putCells w a (GEntry.enc x)) (noStore Try.prog 30 (.pointer (some a)) (GEntry.val x) w) := run_gStore_any sz30 GEntry.val GEntry.val_eq w a x
@[go_sem ↓ high] theorem bx_GEntry (x : GEntry) : (gBox 30 (GEntry.val x)).run Try.prog w = .ok (.pointer (some ⟨w.heap.size, 0, none⟩)) (w.alloc (.cells (GEntry.enc x).toArray 30)) := by
  rw [GEntry.val_eq]; exact run_gBox _ w
end
theorem ds30_0 (x : GEntry) : (x.enc.drop 0).take 2 = x.name.enc := by
  unfold GEntry.enc
  simp only [List.drop_zero]
  rw [List.take_append_of_le_length (by simp [GName.enc_len])]; exact List.take_of_length_le (by simp [GName.enc_len])
theorem pt30_0 (w : World) (x : GEntry) : (part 25 x.enc.toArray 0).run Try.prog w = .ok (x.name.val) w := by
  have h := run_part_agg (P := Try.prog) (w := w) (cs := x.enc) (ds := x.name.enc) (off := 0) ag25 (by rw [GName.enc_len]; exact sz25) (by simp [GName.enc_len]) (by rw [GName.enc_len]; exact ds30_0 x)
  rw [h, GName.val_eq]; rfl
@[go_sem ↓ high] theorem fd30_0 (w : World) (x : GEntry) : (gField 30 (GEntry.val x) 0).run Try.prog w = .ok (x.name.val) w := by
  rw [GEntry.val_eq]
  exact run_gField w uu30 (by rw [fl30]; rfl) (pt30_0 w x)
theorem ds30_1 (x : GEntry) : (x.enc.drop 2).take 32 = x.hash.enc := by
  unfold GEntry.enc
  simp [List.drop_append, List.drop_eq_nil_of_le, GName.enc_len]
  rw [List.take_append_of_le_length (by simp [GHash.enc_len])]; exact List.take_of_length_le (by simp [GHash.enc_len])
theorem pt30_1 (w : World) (x : GEntry) : (part 27 x.enc.toArray 2).run Try.prog w = .ok (x.hash.val) w := by
  have h := run_part_agg (P := Try.prog) (w := w) (cs := x.enc) (ds := x.hash.enc) (off := 2) ag27 (by rw [GHash.enc_len]; exact sz27) (by simp [GHash.enc_len]) (by rw [GHash.enc_len]; exact ds30_1 x)
  rw [h, GHash.val_eq]; rfl
@[go_sem ↓ high] theorem fd30_1 (w : World) (x : GEntry) : (gField 30 (GEntry.val x) 1).run Try.prog w = .ok (x.hash.val) w := by
  rw [GEntry.val_eq]
  exact run_gField w uu30 (by rw [fl30]; rfl) (pt30_1 w x)
theorem lk30_2 (x : GEntry) : x.enc[34]? = some (.int .u64 x.time) := by
  simp [GEntry.enc, List.getElem?_append, GHash.enc_len, GName.enc_len]
theorem pt30_2 (w : World) (x : GEntry) : (part 28 x.enc.toArray 34).run Try.prog w = .ok (.int .u64 x.time) w := run_part_one na28 us28 (lk30_2 x)
@[go_sem ↓ high] theorem fd30_2 (w : World) (x : GEntry) : (gField 30 (GEntry.val x) 2).run Try.prog w = .ok (.int .u64 x.time) w := by
  rw [GEntry.val_eq]
  exact run_gField w uu30 (by rw [fl30]; rfl) (pt30_2 w x)
@[go_sem ↓ high] theorem xf_GEntry (ρ : Operand → Value) (dst : Option Tmp) (x : Operand) (i : Nat) (ty : TypeId) (pos : String) (after : Array Edge) (guard : Option (Nat × Bool)) : execOp ρ { dst, op := .field 30 x i, type := ty, pos, after, guard } = (do pure (.value (← gField 30 (ρ x) i))) := ex_field ..
theorem zr30 : zeroT Try.prog 30 = some (.agg (GEntry.enc default).toArray) := by kernel_rfl
@[go_sem ↓ high] theorem al_GEntry (w : World) : (gAlloc 30).run Try.prog w = .ok (.pointer (some ⟨w.heap.size, 0, none⟩)) (w.alloc (.cells (GEntry.enc default).toArray 30)) := run_zero_alloc zr30 w
@[go_sem] theorem pc_GEntry (w : World) (n : Nat) (x z : GEntry) (hn : n = w.heap.size) : World.putCells (w.alloc (.cells (GEntry.enc z).toArray 30)) ⟨n, 0, none⟩ (GEntry.enc x) = w.alloc (.cells (GEntry.enc x).toArray 30) := putCells_top x z hn
theorem GEntry.at_name {w : World} {a : Addr} {x : GEntry} (h : get? GEntry w a = some x) : get? GName w (a.add 0) = some x.name := by
  rw [get?_iff] at h ⊢
  refine h.sub 0 fun j v hv => ?_
  have hd := ds30_0 x
  have hj : j < 2 := by have := (List.getElem?_eq_some_iff.1 hv).1; rwa [Enc.len] at this
  show x.enc[0 + j]? = some v
  rw [← List.getElem?_drop, ← List.getElem?_take_of_lt hj, hd]; exact hv
theorem GEntry.at_hash {w : World} {a : Addr} {x : GEntry} (h : get? GEntry w a = some x) : get? GHash w (a.add 2) = some x.hash := by
  rw [get?_iff] at h ⊢
  refine h.sub 2 fun j v hv => ?_
  have hd := ds30_1 x
  have hj : j < 32 := by have := (List.getElem?_eq_some_iff.1 hv).1; rwa [Enc.len] at this
  show x.enc[2 + j]? = some v
  rw [← List.getElem?_drop, ← List.getElem?_take_of_lt hj, hd]; exact hv
theorem GEntry.at_time {w : World} {a : Addr} {x : GEntry} (h : get? GEntry w a = some x) : w.cell? (a.add 34) = some (.int .u64 x.time) := (get?_iff.1 h) _ _ (lk30_2 x)
@[go_sem] theorem nw30_0_GName (w : World) (n : Nat) (x : GEntry) (hn : n = w.heap.size) : get? GName (w.alloc (.cells (GEntry.enc x).toArray 30)) ⟨n, 0, none⟩ = some x.name := by
  subst hn
  have h := (GEntry.at_name (get?_new (w := w) 30 x))
  simp only [Addr.add_lit, Nat.zero_add, Nat.reduceAdd] at h
  exact h
@[go_sem] theorem nl30_0 (x : GEntry) : x.enc[0]? = some (.int .i64 x.name.client) := by
  have h := (GName.at_client (GEntry.at_name (get?_new (w := (default : World)) 30 x)))
  simp only [Addr.add_lit, Nat.zero_add, Nat.reduceAdd, World.cell?_alloc_new, List.getElem?_toArray] at h
  exact h
@[go_sem] theorem nl30_1 (x : GEntry) : x.enc[1]? = some (.int .i64 x.name.seq) := by
  have h := (GName.at_seq (GEntry.at_name (get?_new (w := (default : World)) 30 x)))
  simp only [Addr.add_lit, Nat.zero_add, Nat.reduceAdd, World.cell?_alloc_new, List.getElem?_toArray] at h
  exact h
@[go_sem] theorem nw30_2_GHash (w : World) (n : Nat) (x : GEntry) (hn : n = w.heap.size) : get? GHash (w.alloc (.cells (GEntry.enc x).toArray 30)) ⟨n, 2, none⟩ = some x.hash := by
  subst hn
  have h := (GEntry.at_hash (get?_new (w := w) 30 x))
  simp only [Addr.add_lit, Nat.zero_add, Nat.reduceAdd] at h
  exact h
@[go_sem] theorem nl30_34 (x : GEntry) : x.enc[34]? = some (.int .u64 x.time) := by
  have h := (GEntry.at_time (get?_new (w := (default : World)) 30 x))
  simp only [Addr.add_lit, Nat.zero_add, Nat.reduceAdd, World.cell?_alloc_new, List.getElem?_toArray] at h
  exact h
@[go_sem] theorem nw30 (w : World) (n : Nat) (x : GEntry) (hn : n = w.heap.size) : get? GEntry (w.alloc (.cells (GEntry.enc x).toArray 30)) ⟨n, 0, none⟩ = some x := by
  subst hn; exact get?_new 30 x
theorem pl30 : ((Try.prog.fieldsOf 30).toList.mapM fun f => (Try.prog.info? f.type).map fun i => (f.offset, i.size)) = some [(0, 2), (2, 32), (34, 1)] := by kernel_rfl
theorem fs30_0 (x : GEntry) (v : GName) (rest : List (Nat × Value)) : Instr.fill (fun i => ([(0, 2), (2, 32), (34, 1)] : List (Nat × Nat))[i]?) x.enc.toArray ((0, (v.val)) :: rest) = Instr.fill (fun i => ([(0, 2), (2, 32), (34, 1)] : List (Nat × Nat))[i]?) ({ x with name := v } : GEntry).enc.toArray rest := by
  have h := fill_seg [(0, 2), (2, 32), (34, 1)] 0 0 2 rfl (([] : List Value)) (x.name.enc) (x.hash.enc ++ ([(.int .u64 x.time)] ++ (([] : List Value)))) (v.enc) (v.val) rest (by rw [GName.val_eq]; rfl) (by simp [GHash.enc_len, GName.enc_len]) (by simp [GHash.enc_len, GName.enc_len]) (by simp [GHash.enc_len, GName.enc_len])
  have e1 : x.enc = (([] : List Value)) ++ (x.name.enc ++ (x.hash.enc ++ ([(.int .u64 x.time)] ++ (([] : List Value))))) := by simp [GEntry.enc]
  have e2 : ({ x with name := v } : GEntry).enc = (([] : List Value)) ++ (v.enc ++ (x.hash.enc ++ ([(.int .u64 x.time)] ++ (([] : List Value))))) := by simp [GEntry.enc]
  rw [e1, e2]; exact h
theorem fs30_1 (x : GEntry) (v : GHash) (rest : List (Nat × Value)) : Instr.fill (fun i => ([(0, 2), (2, 32), (34, 1)] : List (Nat × Nat))[i]?) x.enc.toArray ((1, (v.val)) :: rest) = Instr.fill (fun i => ([(0, 2), (2, 32), (34, 1)] : List (Nat × Nat))[i]?) ({ x with hash := v } : GEntry).enc.toArray rest := by
  have h := fill_seg [(0, 2), (2, 32), (34, 1)] 1 2 32 rfl (([] : List Value) ++ (x.name.enc)) (x.hash.enc) ([(.int .u64 x.time)] ++ (([] : List Value))) (v.enc) (v.val) rest (by rw [GHash.val_eq]; rfl) (by simp [GHash.enc_len, GName.enc_len]) (by simp [GHash.enc_len, GName.enc_len]) (by simp [GHash.enc_len, GName.enc_len])
  have e1 : x.enc = (([] : List Value) ++ (x.name.enc)) ++ (x.hash.enc ++ ([(.int .u64 x.time)] ++ (([] : List Value)))) := by simp [GEntry.enc]
  have e2 : ({ x with hash := v } : GEntry).enc = (([] : List Value) ++ (x.name.enc)) ++ (v.enc ++ ([(.int .u64 x.time)] ++ (([] : List Value)))) := by simp [GEntry.enc]
  rw [e1, e2]; exact h
theorem fs30_2 (x : GEntry) (v : Int) (rest : List (Nat × Value)) : Instr.fill (fun i => ([(0, 2), (2, 32), (34, 1)] : List (Nat × Nat))[i]?) x.enc.toArray ((2, (.int .u64 v)) :: rest) = Instr.fill (fun i => ([(0, 2), (2, 32), (34, 1)] : List (Nat × Nat))[i]?) ({ x with time := v } : GEntry).enc.toArray rest := by
  have h := fill_seg [(0, 2), (2, 32), (34, 1)] 2 34 1 rfl (([] : List Value) ++ (x.name.enc ++ (x.hash.enc))) ([(.int .u64 x.time)]) (([] : List Value)) ([(.int .u64 v)]) (.int .u64 v) rest (rfl) (by simp [GHash.enc_len, GName.enc_len]) (by simp [GHash.enc_len, GName.enc_len]) (by simp [GHash.enc_len, GName.enc_len])
  have e1 : x.enc = (([] : List Value) ++ (x.name.enc ++ (x.hash.enc))) ++ ([(.int .u64 x.time)] ++ (([] : List Value))) := by simp [GEntry.enc]
  have e2 : ({ x with time := v } : GEntry).enc = (([] : List Value) ++ (x.name.enc ++ (x.hash.enc))) ++ ([(.int .u64 v)] ++ (([] : List Value))) := by simp [GEntry.enc]
  rw [e1, e2]; exact h
@[go_sem ↓ high] theorem xd_GEntry (ρ : Operand → Value) (dst : Option Tmp) (ps : Array (Nat × Operand)) (ty : TypeId) (pos : String) (after : Array Edge) (guard : Option (Nat × Bool)) : execOp ρ { dst, op := .build 30 ps, type := ty, pos, after, guard } = (do pure (.value (← gBuild 30 (ps.map fun (i, x) => (i, ρ x))))) := ex_build ..
@[go_sem ↓ high] theorem bd30_0 (w : World) (v0 : GName) (v2 : Int) : (gBuild 30 #[(0, (v0.val)), (2, (.int .u64 v2))]).run Try.prog w = .ok (GEntry.val ⟨v0, default, v2⟩) w := by
  rw [GEntry.val_eq]
  refine run_gBuild_of uu30 zr30 pl30 ?_ w
  show Instr.fill _ (GEntry.enc default).toArray [(0, (v0.val)), (2, (.int .u64 v2))] = _
  rw [fs30_0, fs30_2]; rfl
@[go_sem ↓ high] theorem bd30_1 (w : World) (v2 : Int) : (gBuild 30 #[(2, (.int .u64 v2))]).run Try.prog w = .ok (GEntry.val ⟨default, default, v2⟩) w := by
  rw [GEntry.val_eq]
  refine run_gBuild_of uu30 zr30 pl30 ?_ w
  show Instr.fill _ (GEntry.enc default).toArray [(2, (.int .u64 v2))] = _
  rw [fs30_2]; rfl
@[go_sem ↓ high] theorem bd30_2 (w : World) (v0 : GName) (v1 : GHash) (v2 : Int) : (gBuild 30 #[(0, (v0.val)), (1, (v1.val)), (2, (.int .u64 v2))]).run Try.prog w = .ok (GEntry.val ⟨v0, v1, v2⟩) w := by
  rw [GEntry.val_eq]
  refine run_gBuild_of uu30 zr30 pl30 ?_ w
  show Instr.fill _ (GEntry.enc default).toArray [(0, (v0.val)), (1, (v1.val)), (2, (.int .u64 v2))] = _
  rw [fs30_0, fs30_1, fs30_2]; rfl
theorem eq_GEntry (w : World) (d : Nat) (x y : GEntry) : (Op.equalIn (d + 3) 30 (GEntry.val x) (GEntry.val y)).run Try.prog w = .ok (decide (x = y)) w := by
  have q0 : (Op.equalIn (d + 2) 25 x.name.val y.name.val).run Try.prog w = .ok (decide (x.name = y.name)) w := eq_GName w (d + 0) _ _
  have q1 : (Op.equalIn (d + 2) 27 x.hash.val y.hash.val).run Try.prog w = .ok (decide (x.hash = y.hash)) w := eq_GHash w (d + 0) _ _
  have q2 : ∀ a b, (Op.equalIn (d + 2) 28 (.int .u64 a) (.int .u64 b)).run Try.prog w = .ok (decide (a = b)) w := fun a b => by rw [run_equalIn_int w (d + 1) 28 .u64 .u64 a b uk28]; congr 1
  have h := run_equalIn_fields (d + 2) x.enc.toArray y.enc.toArray w uu30 st30 nb30
  rw [fl30] at h
  unfold GEntry.val
  refine h.trans ?_
  clear h
  simp only [eqFs, Sem.run_bind, pt30_0, pt30_1, pt30_2, q0, q1, q2, Result.andThen_ok, Sem.run_ite, Sem.run_pure]
  have he : decide (x = y) = (decide (x.name = y.name) && (decide (x.hash = y.hash) && (decide (x.time = y.time)))) := by
    rw [Bool.eq_iff_iff]; simp only [Bool.and_eq_true, decide_eq_true_eq]; exact GEntry.ext_all x y
  rw [he]
  generalize decide (x.name = y.name) = c0; generalize decide (x.hash = y.hash) = c1; generalize decide (x.time = y.time) = c2
  cases c0 <;> cases c1 <;> cases c2 <;> simp
@[go_sem ↓ high] theorem xq_GEntry (ρ : Operand → Value) (dst : Option Tmp) (x y : Operand) (ty yt : TypeId) (pos : String) (after : Array Edge) (guard : Option (Nat × Bool)) : execOp ρ { dst, op := .binOp .eql 30 x y yt, type := ty, pos, after, guard } = (do pure (.value (← gBin .eql 30 x y (ρ x) (ρ y)))) := ex_eql ..
@[go_sem ↓ high] theorem xn_GEntry (ρ : Operand → Value) (dst : Option Tmp) (x y : Operand) (ty yt : TypeId) (pos : String) (after : Array Edge) (guard : Option (Nat × Bool)) : execOp ρ { dst, op := .binOp .neq 30 x y yt, type := ty, pos, after, guard } = (do pure (.value (← gBin .neq 30 x y (ρ x) (ρ y)))) := ex_neq ..
theorem eg_GEntry : Try.prog.eqGuardType Try.prog.depth 30 = false := by kernel_rfl
@[go_sem ↓ high] theorem eql_GEntry (w : World) (ox oy : Operand) (x y : GEntry) : (gBin .eql 30 ox oy (GEntry.val x) (GEntry.val y)).run Try.prog w = .ok (.bool (decide (x = y))) w := by
  have h2 := eq_GEntry w 9997 x y
  rw [GEntry.val_eq, GEntry.val_eq] at h2 ⊢
  have h := run_eqGuard_agg (P := Try.prog) w .eql 30 ox oy (Enc.enc x).toArray (Enc.enc y).toArray eg_GEntry
  unfold gBin
  simp only [Sem.run_bind, h, Result.andThen_ok, run_eql_struct, h2]
@[go_sem ↓ high] theorem neq_GEntry (w : World) (ox oy : Operand) (x y : GEntry) : (gBin .neq 30 ox oy (GEntry.val x) (GEntry.val y)).run Try.prog w = .ok (.bool (!decide (x = y))) w := by
  have h2 := eq_GEntry w 9997 x y
  rw [GEntry.val_eq, GEntry.val_eq] at h2 ⊢
  have h := run_eqGuard_agg (P := Try.prog) w .neq 30 ox oy (Enc.enc x).toArray (Enc.enc y).toArray eg_GEntry
  unfold gBin
  simp only [Sem.run_bind, h, Result.andThen_ok, run_neq_struct, h2]
/-! ### []api.Entry -/
theorem ei22 : ElemI Try.prog 22 30 GEntry 56 := ⟨by kernel_rfl, by kernel_rfl⟩
@[go_sem ↓ high] theorem xg_22 (ρ : Operand → Value) (dst : Option Tmp) (ps : Array (Nat × Operand)) (ty : TypeId) (pos : String) (after : Array Edge) (guard : Option (Nat × Bool)) : execOp ρ { dst, op := .buildSlice 22 1 ps, type := ty, pos, after, guard } = (do pure (.value (← gBuildSlice 22 1 (ps.map fun (i, x) => (i, ρ x))))) := ex_buildSlice ..
@[go_sem ↓ high] theorem bs_22 (w : World) (x : GEntry) : (gBuildSlice 22 1 #[(0, GEntry.val x)]).run Try.prog w = .ok (.slice (some ⟨w.heap.size, 0, none⟩) 1 1) (w.alloc (.cells (GEntry.enc x).toArray 30)) := by
  rw [GEntry.val_eq]; exact run_buildSlice_one ei22 (by decide) x w
/-! ### [][]api.Entry -/
theorem ei39 : ElemI Try.prog 39 22 Hdr 24 := ⟨by kernel_rfl, by kernel_rfl⟩
/-! ### []uint64 -/
theorem ei36 : ElemI Try.prog 36 28 U64 8 := ⟨by kernel_rfl, by kernel_rfl⟩
/-! ### [][]uint64 -/
theorem ei42 : ElemI Try.prog 42 36 Hdr 24 := ⟨by kernel_rfl, by kernel_rfl⟩
/-! ### []int -/
theorem ei45 : ElemI Try.prog 45 3 I64 8 := ⟨by kernel_rfl, by kernel_rfl⟩
/-! ### []api.Name -/
theorem ei41 : ElemI Try.prog 41 25 GName 16 := ⟨by kernel_rfl, by kernel_rfl⟩
@[go_sem ↓ high] theorem xg_41 (ρ : Operand → Value) (dst : Option Tmp) (ps : Array (Nat × Operand)) (ty : TypeId) (pos : String) (after : Array Edge) (guard : Option (Nat × Bool)) : execOp ρ { dst, op := .buildSlice 41 1 ps, type := ty, pos, after, guard } = (do pure (.value (← gBuildSlice 41 1 (ps.map fun (i, x) => (i, ρ x))))) := ex_buildSlice ..
@[go_sem ↓ high] theorem bs_41 (w : World) (x : GName) : (gBuildSlice 41 1 #[(0, GName.val x)]).run Try.prog w = .ok (.slice (some ⟨w.heap.size, 0, none⟩) 1 1) (w.alloc (.cells (GName.enc x).toArray 25)) := by
  rw [GName.val_eq]; exact run_buildSlice_one ei41 (by decide) x w
instance : KEnc GName := ⟨GName.val, fun a b h => by rw [GName.val_eq, GName.val_eq] at h; injection h with h; exact Enc.inj _ _ (by simpa using congrArg Array.toList h)⟩
theorem kl25 : KeyLaws Try.prog 25 GName where
  chk := fun e k w => by
    show (Instr.checkKey e 10000 25 (GName.val k)).run Try.prog w = _
    rw [GName.val_eq]
    rw [run_checkKey_struct e 9999 _ w uu25 nb25, fl25]
    show (chkFs e 9999 k.enc.toArray _).run Try.prog w = _
    simp only [chkFs, Sem.run_bind, pt25_0, pt25_1, Result.andThen_ok, run_checkKey_one e 9998 uk3, Sem.run_pure]
  fnd := fnd_struct (fun k k' w => eq_GName w 9998 k k') uu25 (fun k k' => by show Instr.sameNow _ (GName.val k) (GName.val k') = none; rw [GName.val_eq, GName.val_eq]; rfl)
  same := fun k => by
    show Instr.sameBits 10000 (GName.val k) (GName.val k) = true
    rw [GName.val_eq]
    exact sameBits_cells 9999 _ (Enc.one k) (fun u hu => by
      have hu' : u ∈ k.enc := hu
      unfold GName.enc at hu'
      simp only [List.mem_append, List.mem_singleton] at hu'
      rcases hu' with rfl | rfl <;> exact sameBits_int _ _ _)

/-! ### map[api.Name][]uint64 -/
theorem um37 : Try.prog.underlying 37 = some (.map 25 36) := by kernel_rfl
theorem zv37_36 : zeroT Try.prog 36 = some (VEnc.vv (default : Hdr)) := by kernel_rfl
@[go_sem ↓ high] theorem xk_37 (ρ : Operand → Value) (dst : Option Tmp) (x y : Operand) (ok : Bool) (ty : TypeId) (pos : String) (after : Array Edge) (guard : Option (Nat × Bool)) : execOp ρ { dst, op := .lookup 37 x y ok, type := ty, pos, after, guard } = (do pure (.value (← gLookup 37 (ρ x) (ρ y) ok))) := ex_lookup ..
@[go_sem ↓ high] theorem xu_37 (ρ : Operand → Value) (dst : Option Tmp) (x y z : Operand) (ty : TypeId) (pos : String) (after : Array Edge) (guard : Option (Nat × Bool)) : execOp ρ { dst, op := .mapUpdate 37 x y z, type := ty, pos, after, guard } = (do gMapUpdate 37 (ρ x) (ρ y) (ρ z); pure .skip) := ex_mapUpdate ..
@[go_sem ↓ high] theorem lk_37 (w : World) (r : Nat) (k : GName) : (gLookup 37 (.map (some r)) (GName.val k) false).run Try.prog w = ofOpt ((mapAt GName Hdr w r).map fun m => (Hdr.val ((mget m k).getD default))) w (noLookup Try.prog 37 (.map (some r)) (GName.val k) false w) :=
  run_gLookup kl25 um37 zv37_36 w r k
@[go_sem ↓ high] theorem lo_37 (w : World) (r : Nat) (k : GName) : (gLookup 37 (.map (some r)) (GName.val k) true).run Try.prog w = ofOpt ((mapAt GName Hdr w r).map fun m => .tuple #[(Hdr.val ((mget m k).getD default)), .bool (mget m k).isSome]) w (noLookup Try.prog 37 (.map (some r)) (GName.val k) true w) :=
  run_gLookup_ok kl25 um37 zv37_36 w r k
@[go_sem ↓ high] theorem ln_37 (w : World) (k : GName) : (gLookup 37 (.map none) (GName.val k) false).run Try.prog w = .ok (Hdr.val (default : Hdr)) w :=
  run_gLookup_nil kl25 um37 zv37_36 w k
@[go_sem ↓ high] theorem mu_37 (w : World) (r : Nat) (k : GName) (v : Hdr) : (gMapUpdate 37 (.map (some r)) (GName.val k) (Hdr.val v)).run Try.prog w = okU ((mapAt GName Hdr w r).isSome) (mput Try.prog 37 w r k v) (noUpdate Try.prog 37 (.map (some r)) (GName.val k) (Hdr.val v) w) :=
  run_gMapUpdate kl25 um37 w r k v
@[go_sem] theorem sz_mput_37 (w : World) (r : Nat) (k : GName) (v : Hdr) (h : (mapAt GName Hdr w r).isSome = true) : (mput Try.prog 37 w r k v).heap.size = w.heap.size := by
  obtain ⟨m, hm⟩ := Option.isSome_iff_exists.1 h; exact mput_size kl25 um37 hm k v

/-! ### map[api.Name]bool -/
theorem um110 : Try.prog.underlying 110 = some (.map 25 4) := by kernel_rfl
theorem zv110_4 : zeroT Try.prog 4 = some (VEnc.vv (false : Bool)) := by kernel_rfl
@[go_sem ↓ high] theorem xk_110 (ρ : Operand → Value) (dst : Option Tmp) (x y : Operand) (ok : Bool) (ty : TypeId) (pos : String) (after : Array Edge) (guard : Option (Nat × Bool)) : execOp ρ { dst, op := .lookup 110 x y ok, type := ty, pos, after, guard } = (do pure (.value (← gLookup 110 (ρ x) (ρ y) ok))) := ex_lookup ..
@[go_sem ↓ high] theorem xu_110 (ρ : Operand → Value) (dst : Option Tmp) (x y z : Operand) (ty : TypeId) (pos : String) (after : Array Edge) (guard : Option (Nat × Bool)) : execOp ρ { dst, op := .mapUpdate 110 x y z, type := ty, pos, after, guard } = (do gMapUpdate 110 (ρ x) (ρ y) (ρ z); pure .skip) := ex_mapUpdate ..
@[go_sem ↓ high] theorem lk_110 (w : World) (r : Nat) (k : GName) : (gLookup 110 (.map (some r)) (GName.val k) false).run Try.prog w = ofOpt ((mapAt GName Bool w r).map fun m => (.bool ((mget m k).getD false))) w (noLookup Try.prog 110 (.map (some r)) (GName.val k) false w) :=
  run_gLookup kl25 um110 zv110_4 w r k
@[go_sem ↓ high] theorem lo_110 (w : World) (r : Nat) (k : GName) : (gLookup 110 (.map (some r)) (GName.val k) true).run Try.prog w = ofOpt ((mapAt GName Bool w r).map fun m => .tuple #[(.bool ((mget m k).getD false)), .bool (mget m k).isSome]) w (noLookup Try.prog 110 (.map (some r)) (GName.val k) true w) :=
  run_gLookup_ok kl25 um110 zv110_4 w r k
@[go_sem ↓ high] theorem ln_110 (w : World) (k : GName) : (gLookup 110 (.map none) (GName.val k) false).run Try.prog w = .ok (.bool (false : Bool)) w :=
  run_gLookup_nil kl25 um110 zv110_4 w k
@[go_sem ↓ high] theorem mu_110 (w : World) (r : Nat) (k : GName) (v : Bool) : (gMapUpdate 110 (.map (some r)) (GName.val k) (.bool v)).run Try.prog w = okU ((mapAt GName Bool w r).isSome) (mput Try.prog 110 w r k v) (noUpdate Try.prog 110 (.map (some r)) (GName.val k) (.bool v) w) :=
  run_gMapUpdate kl25 um110 w r k v
@[go_sem] theorem sz_mput_110 (w : World) (r : Nat) (k : GName) (v : Bool) (h : (mapAt GName Bool w r).isSome = true) : (mput Try.prog 110 w r k v).heap.size = w.heap.size := by
  obtain ⟨m, hm⟩ := Option.isSome_iff_exists.1 h; exact mput_size kl25 um110 hm k v

end Go.Proofs.Yteockodnfempfaa
