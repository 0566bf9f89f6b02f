/- Slices of slices that the call owns. Conditions: those named in each theorem. -/
import Derived.Test.YtfhhcgldikmejaaGreatDoorP2
import Derived.Test.YtfhhcgldikmejaaGreatDoorP1
import Derived.BigRegion
import Derived.Deep.RegionWith
/- The struct types of this seat as Lean types, with the runs of single operations over them. Conditions: those named in each theorem. -/
namespace Go.Proofs.YtfhhcgldikmejaaGreatDoor
open Go Go.RowKit Go.Gv
set_option linter.unusedSimpArgs false

/-! ### gavel/api.Vote -/
structure GVote where
  kind : Int
  epoch : Int
  round : Int
  replica : Int
  hash : GHash
  sig : GSig
deriving DecidableEq
instance : Inhabited GVote := ⟨⟨0, 0, 0, 0, default, default⟩⟩
def GVote.enc (x : GVote) : List Value := [(.int .i64 x.kind)] ++ ([(.int .i64 x.epoch)] ++ ([(.int .i64 x.round)] ++ ([(.int .i64 x.replica)] ++ (x.hash.enc ++ (x.sig.enc)))))
theorem GVote.enc_len (x : GVote) : x.enc.length = 38 := by simp [GVote.enc, GHash.enc_len, GSig.enc_len]
theorem GVote.enc_one (x : GVote) : ∀ u ∈ x.enc, u.oneCell' = true := by
  intro u hu
  simp only [GVote.enc, List.mem_append, List.mem_singleton] at hu
  rcases hu with hu | hu | hu | hu | hu | hu
  · subst hu; rfl
  · subst hu; rfl
  · subst hu; rfl
  · subst hu; rfl
  · exact Enc.one (α := GHash) _ _ hu
  · exact Enc.one (α := GSig) _ _ hu
theorem GVote.enc_inj (x y : GVote) (h : x.enc = y.enc) : x = y := by
  obtain ⟨a0, a1, a2, a3, a4, a5⟩ := x
  obtain ⟨b0, b1, b2, b3, b4, b5⟩ := y
  simp only [GVote.enc] at h
  obtain ⟨p0, q0⟩ := List.append_inj h (rfl)
  have e0 : a0 = b0 := by have := List.head_eq_of_cons_eq p0; injection this
  obtain ⟨p1, q1⟩ := List.append_inj q0 (rfl)
  have e1 : a1 = b1 := by have := List.head_eq_of_cons_eq p1; injection this
  obtain ⟨p2, q2⟩ := List.append_inj q1 (rfl)
  have e2 : a2 = b2 := by have := List.head_eq_of_cons_eq p2; injection this
  obtain ⟨p3, q3⟩ := List.append_inj q2 (rfl)
  have e3 : a3 = b3 := by have := List.head_eq_of_cons_eq p3; injection this
  obtain ⟨p4, q4⟩ := List.append_inj q3 (by simp [GHash.enc_len])
  have e4 := Enc.inj (α := GHash) _ _ p4
  have e5 := Enc.inj (α := GSig) _ _ q4
  rw [e0, e1, e2, e3, e4, e5]
instance : Enc GVote where
  n := 38
  enc := GVote.enc
  pos := by omega
  len := GVote.enc_len
  one := GVote.enc_one
  inj := GVote.enc_inj
@[go_sem] theorem GVote.n_eq : Enc.n GVote = 38 := rfl
@[irreducible] def GVote.val (x : GVote) : Value := .agg x.enc.toArray
theorem GVote.val_eq (x : GVote) : GVote.val x = .agg (Enc.enc x).toArray := by unfold GVote.val; rfl
theorem GVote.ext_all (x y : GVote) : x = y ↔ x.kind = y.kind ∧ x.epoch = y.epoch ∧ x.round = y.round ∧ x.replica = y.replica ∧ x.hash = y.hash ∧ x.sig = y.sig := by
  constructor
  · intro h; cases h; simp
  · intro h; cases x; cases y; simp_all
theorem uu58 : Tryz.prog.underlying 58 = some (.struct (Tryz.prog.fieldsOf 58)) := by kernel_rfl
theorem st58 : Tryz.prog.stoodInHeld 58 = false := by kernel_rfl
theorem fl58 : fieldTO Tryz.prog 58 = [(3, 0), (3, 1), (3, 2), (3, 3), (35, 4), (37, 36)] := by kernel_rfl
theorem nb58 : noBlank Tryz.prog 58 = true := by kernel_rfl
@[go_sem ↓ high] theorem xl_GVote (ρ : Operand → Value) (dst : Option Tmp) (x : Operand) (ty : TypeId) (pos : String) (after : Array Edge) (guard : Option (Nat × Bool)) : execOp ρ { dst, op := .load 58 x, type := ty, pos, after, guard } = (do pure (.value (← gLoad 58 (ρ x)))) := ex_load ..
@[go_sem ↓ high] theorem xs_GVote (ρ : Operand → Value) (dst : Option Tmp) (x y : Operand) (ty : TypeId) (pos : String) (after : Array Edge) (guard : Option (Nat × Bool)) : execOp ρ { dst, op := .store 58 x y, type := ty, pos, after, guard } = (do gStore 58 (ρ x) (ρ y); pure .skip) := ex_store ..
@[go_sem ↓ high] theorem xb_GVote (ρ : Operand → Value) (dst : Option Tmp) (x : Operand) (ty : TypeId) (pos : String) (after : Array Edge) (guard : Option (Nat × Bool)) : execOp ρ { dst, op := .box 58 x, type := ty, pos, after, guard } = (do pure (.value (← gBox 58 (ρ x)))) := ex_box ..
@[go_sem ↓ high] theorem xa_GVote (ρ : Operand → Value) (dst : Option Tmp) (ty : TypeId) (pos : String) (after : Array Edge) (guard : Option (Nat × Bool)) : execOp ρ { dst, op := .alloc 58, type := ty, pos, after, guard } = (do pure (.value (← gAlloc 58))) := ex_alloc ..
theorem ag58 : aggT Tryz.prog 58 = true := by kernel_rfl
theorem sz58 : sizeT Tryz.prog 58 = 38 := by kernel_rfl
section
variable (w : World)
@[go_sem ↓ high] theorem ld_GVote (a : Addr) : (gLoad 58 (.pointer (some a))).run Tryz.prog w = ofOpt ((get? GVote w a).map GVote.val) w (noLoad Tryz.prog 58 a w) := by
  unfold gLoad; exact run_loadAt_opt ag58 sz58 GVote.val GVote.val_eq
@[go_sem ↓ high] theorem st_GVote (a : Addr) (x : GVote) : (gStore 58 (.pointer (some a)) (GVote.val x)).run Tryz.prog w = okU' ((get? GVote w a).isSome && blkFree w a.block) (World.putCells w a (GVote.enc x)) (noStore Tryz.prog 58 (.pointer (some a)) (GVote.val x) w) := run_gStore_any sz58 GVote.val GVote.val_eq w a x
@[go_sem ↓ high] theorem bx_GVote (x : GVote) : (gBox 58 (GVote.val x)).run Tryz.prog w = .ok (.pointer (some ⟨w.heap.size, 0, none⟩)) (w.alloc (.cells (GVote.enc x).toArray 58)) := by
  rw [GVote.val_eq]; exact run_gBox _ w
end
theorem lk58_0 (x : GVote) : x.enc[0]? = some (.int .i64 x.kind) := by
  simp [GVote.enc, List.getElem?_append]
theorem pt58_0 (w : World) (x : GVote) : (part 3 x.enc.toArray 0).run Tryz.prog w = .ok (.int .i64 x.kind) w := run_part_one na3 us3 (lk58_0 x)
theorem lk58_1 (x : GVote) : x.enc[1]? = some (.int .i64 x.epoch) := by
  simp [GVote.enc, List.getElem?_append]
theorem pt58_1 (w : World) (x : GVote) : (part 3 x.enc.toArray 1).run Tryz.prog w = .ok (.int .i64 x.epoch) w := run_part_one na3 us3 (lk58_1 x)
theorem lk58_2 (x : GVote) : x.enc[2]? = some (.int .i64 x.round) := by
  simp [GVote.enc, List.getElem?_append]
theorem pt58_2 (w : World) (x : GVote) : (part 3 x.enc.toArray 2).run Tryz.prog w = .ok (.int .i64 x.round) w := run_part_one na3 us3 (lk58_2 x)
theorem lk58_3 (x : GVote) : x.enc[3]? = some (.int .i64 x.replica) := by
  simp [GVote.enc, List.getElem?_append]
theorem pt58_3 (w : World) (x : GVote) : (part 3 x.enc.toArray 3).run Tryz.prog w = .ok (.int .i64 x.replica) w := run_part_one na3 us3 (lk58_3 x)
theorem ds58_4 (x : GVote) : (x.enc.drop 4).take 32 = x.hash.enc := by
  unfold GVote.enc
  simp [List.drop_append, List.drop_eq_nil_of_le] <;> (rw [List.take_append_of_le_length (by simp [GHash.enc_len])]; exact List.take_of_length_le (by simp [GHash.enc_len]))
theorem pt58_4 (w : World) (x : GVote) : (part 35 x.enc.toArray 4).run Tryz.prog w = .ok (x.hash.val) w := by
  have h := run_part_agg (P := Tryz.prog) (w := w) (cs := x.enc) (ds := x.hash.enc) (off := 4) ag35 (by rw [GHash.enc_len]; exact sz35) (by simp [GHash.enc_len]) (by rw [GHash.enc_len]; exact ds58_4 x)
  rw [h, GHash.val_eq]; rfl
theorem ds58_5 (x : GVote) : (x.enc.drop 36).take 2 = x.sig.enc := by
  unfold GVote.enc
  simp [List.drop_append, List.drop_eq_nil_of_le, GHash.enc_len] <;> (exact List.take_of_length_le (by simp [GSig.enc_len]))
theorem pt58_5 (w : World) (x : GVote) : (part 37 x.enc.toArray 36).run Tryz.prog w = .ok (x.sig.val) w := by
  have h := run_part_agg (P := Tryz.prog) (w := w) (cs := x.enc) (ds := x.sig.enc) (off := 36) ag37 (by rw [GSig.enc_len]; exact sz37) (by simp [GSig.enc_len]) (by rw [GSig.enc_len]; exact ds58_5 x)
  rw [h, GSig.val_eq]; rfl
theorem zr58 : zeroT Tryz.prog 58 = some (.agg (GVote.enc default).toArray) := by kernel_rfl
@[go_sem ↓ high] theorem al_GVote (w : World) : (gAlloc 58).run Tryz.prog w = .ok (.pointer (some ⟨w.heap.size, 0, none⟩)) (w.alloc (.cells (GVote.enc default).toArray 58)) := run_zero_alloc zr58 w
theorem GVote.at_kind {w : World} {a : Addr} {x : GVote} (h : get? GVote w a = some x) : w.cell? (a.add 0) = some (.int .i64 x.kind) := (get?_iff.1 h) _ _ (lk58_0 x)
theorem GVote.at_epoch {w : World} {a : Addr} {x : GVote} (h : get? GVote w a = some x) : w.cell? (a.add 1) = some (.int .i64 x.epoch) := (get?_iff.1 h) _ _ (lk58_1 x)
theorem GVote.at_round {w : World} {a : Addr} {x : GVote} (h : get? GVote w a = some x) : w.cell? (a.add 2) = some (.int .i64 x.round) := (get?_iff.1 h) _ _ (lk58_2 x)
theorem GVote.at_replica {w : World} {a : Addr} {x : GVote} (h : get? GVote w a = some x) : w.cell? (a.add 3) = some (.int .i64 x.replica) := (get?_iff.1 h) _ _ (lk58_3 x)
theorem GVote.at_hash {w : World} {a : Addr} {x : GVote} (h : get? GVote w a = some x) : get? GHash w (a.add 4) = some x.hash := by
  rw [get?_iff] at h ⊢
  refine h.sub 4 fun j v hv => ?_
  have hd := ds58_4 x
  have hj : j < 32 := by have := (List.getElem?_eq_some_iff.1 hv).1; rwa [Enc.len] at this
  show x.enc[4 + j]? = some v
  rw [← List.getElem?_drop, ← List.getElem?_take_of_lt hj, hd]; exact hv
theorem GVote.at_sig {w : World} {a : Addr} {x : GVote} (h : get? GVote w a = some x) : get? GSig w (a.add 36) = some x.sig := by
  rw [get?_iff] at h ⊢
  refine h.sub 36 fun j v hv => ?_
  have hd := ds58_5 x
  have hj : j < 2 := by have := (List.getElem?_eq_some_iff.1 hv).1; rwa [Enc.len] at this
  show x.enc[36 + j]? = some v
  rw [← List.getElem?_drop, ← List.getElem?_take_of_lt hj, hd]; exact hv
theorem pl58 : ((Tryz.prog.fieldsOf 58).toList.mapM fun f => (Tryz.prog.info? f.type).map fun i => (f.offset, i.size)) = some [(0, 1), (1, 1), (2, 1), (3, 1), (4, 32), (36, 2)] := by kernel_rfl
theorem fs58_0 (x : GVote) (v : Int) (rest : List (Nat × Value)) : Instr.fill (fun i => ([(0, 1), (1, 1), (2, 1), (3, 1), (4, 32), (36, 2)] : List (Nat × Nat))[i]?) x.enc.toArray ((0, (.int .i64 v)) :: rest) = Instr.fill (fun i => ([(0, 1), (1, 1), (2, 1), (3, 1), (4, 32), (36, 2)] : List (Nat × Nat))[i]?) ({ x with kind := v } : GVote).enc.toArray rest := by
  have h := fill_seg [(0, 1), (1, 1), (2, 1), (3, 1), (4, 32), (36, 2)] 0 0 1 rfl (([] : List Value)) ([(.int .i64 x.kind)]) ([(.int .i64 x.epoch)] ++ ([(.int .i64 x.round)] ++ ([(.int .i64 x.replica)] ++ (x.hash.enc ++ (x.sig.enc ++ (([] : List Value))))))) ([(.int .i64 v)]) (.int .i64 v) rest (rfl) (by simp [GHash.enc_len, GSig.enc_len]) (by simp [GHash.enc_len, GSig.enc_len]) (by simp [GHash.enc_len, GSig.enc_len])
  have e1 : x.enc = (([] : List Value)) ++ ([(.int .i64 x.kind)] ++ ([(.int .i64 x.epoch)] ++ ([(.int .i64 x.round)] ++ ([(.int .i64 x.replica)] ++ (x.hash.enc ++ (x.sig.enc ++ (([] : List Value)))))))) := by simp only [GVote.enc, List.nil_append, List.append_assoc, List.append_nil]
  have e2 : ({ x with kind := v } : GVote).enc = (([] : List Value)) ++ ([(.int .i64 v)] ++ ([(.int .i64 x.epoch)] ++ ([(.int .i64 x.round)] ++ ([(.int .i64 x.replica)] ++ (x.hash.enc ++ (x.sig.enc ++ (([] : List Value)))))))) := by simp only [GVote.enc, List.nil_append, List.append_assoc, List.append_nil]
  rw [e1, e2]; exact h
theorem fs58_1 (x : GVote) (v : Int) (rest : List (Nat × Value)) : Instr.fill (fun i => ([(0, 1), (1, 1), (2, 1), (3, 1), (4, 32), (36, 2)] : List (Nat × Nat))[i]?) x.enc.toArray ((1, (.int .i64 v)) :: rest) = Instr.fill (fun i => ([(0, 1), (1, 1), (2, 1), (3, 1), (4, 32), (36, 2)] : List (Nat × Nat))[i]?) ({ x with epoch := v } : GVote).enc.toArray rest := by
  have h := fill_seg [(0, 1), (1, 1), (2, 1), (3, 1), (4, 32), (36, 2)] 1 1 1 rfl (([] : List Value) ++ ([(.int .i64 x.kind)])) ([(.int .i64 x.epoch)]) ([(.int .i64 x.round)] ++ ([(.int .i64 x.replica)] ++ (x.hash.enc ++ (x.sig.enc ++ (([] : List Value)))))) ([(.int .i64 v)]) (.int .i64 v) rest (rfl) (by simp [GHash.enc_len, GSig.enc_len]) (by simp [GHash.enc_len, GSig.enc_len]) (by simp [GHash.enc_len, GSig.enc_len])
  have e1 : x.enc = (([] : List Value) ++ ([(.int .i64 x.kind)])) ++ ([(.int .i64 x.epoch)] ++ ([(.int .i64 x.round)] ++ ([(.int .i64 x.replica)] ++ (x.hash.enc ++ (x.sig.enc ++ (([] : List Value))))))) := by simp only [GVote.enc, List.nil_append, List.append_assoc, List.append_nil]
  have e2 : ({ x with epoch := v } : GVote).enc = (([] : List Value) ++ ([(.int .i64 x.kind)])) ++ ([(.int .i64 v)] ++ ([(.int .i64 x.round)] ++ ([(.int .i64 x.replica)] ++ (x.hash.enc ++ (x.sig.enc ++ (([] : List Value))))))) := by simp only [GVote.enc, List.nil_append, List.append_assoc, List.append_nil]
  rw [e1, e2]; exact h
theorem fs58_2 (x : GVote) (v : Int) (rest : List (Nat × Value)) : Instr.fill (fun i => ([(0, 1), (1, 1), (2, 1), (3, 1), (4, 32), (36, 2)] : List (Nat × Nat))[i]?) x.enc.toArray ((2, (.int .i64 v)) :: rest) = Instr.fill (fun i => ([(0, 1), (1, 1), (2, 1), (3, 1), (4, 32), (36, 2)] : List (Nat × Nat))[i]?) ({ x with round := v } : GVote).enc.toArray rest := by
  have h := fill_seg [(0, 1), (1, 1), (2, 1), (3, 1), (4, 32), (36, 2)] 2 2 1 rfl (([] : List Value) ++ ([(.int .i64 x.kind)] ++ ([(.int .i64 x.epoch)]))) ([(.int .i64 x.round)]) ([(.int .i64 x.replica)] ++ (x.hash.enc ++ (x.sig.enc ++ (([] : List Value))))) ([(.int .i64 v)]) (.int .i64 v) rest (rfl) (by simp [GHash.enc_len, GSig.enc_len]) (by simp [GHash.enc_len, GSig.enc_len]) (by simp [GHash.enc_len, GSig.enc_len])
  have e1 : x.enc = (([] : List Value) ++ ([(.int .i64 x.kind)] ++ ([(.int .i64 x.epoch)]))) ++ ([(.int .i64 x.round)] ++ ([(.int .i64 x.replica)] ++ (x.hash.enc ++ (x.sig.enc ++ (([] : List Value)))))) := by simp only [GVote.enc, List.nil_append, List.append_assoc, List.append_nil]
  have e2 : ({ x with round := v } : GVote).enc = (([] : List Value) ++ ([(.int .i64 x.kind)] ++ ([(.int .i64 x.epoch)]))) ++ ([(.int .i64 v)] ++ ([(.int .i64 x.replica)] ++ (x.hash.enc ++ (x.sig.enc ++ (([] : List Value)))))) := by simp only [GVote.enc, List.nil_append, List.append_assoc, List.append_nil]
  rw [e1, e2]; exact h
theorem fs58_3 (x : GVote) (v : Int) (rest : List (Nat × Value)) : Instr.fill (fun i => ([(0, 1), (1, 1), (2, 1), (3, 1), (4, 32), (36, 2)] : List (Nat × Nat))[i]?) x.enc.toArray ((3, (.int .i64 v)) :: rest) = Instr.fill (fun i => ([(0, 1), (1, 1), (2, 1), (3, 1), (4, 32), (36, 2)] : List (Nat × Nat))[i]?) ({ x with replica := v } : GVote).enc.toArray rest := by
  have h := fill_seg [(0, 1), (1, 1), (2, 1), (3, 1), (4, 32), (36, 2)] 3 3 1 rfl (([] : List Value) ++ ([(.int .i64 x.kind)] ++ ([(.int .i64 x.epoch)] ++ ([(.int .i64 x.round)])))) ([(.int .i64 x.replica)]) (x.hash.enc ++ (x.sig.enc ++ (([] : List Value)))) ([(.int .i64 v)]) (.int .i64 v) rest (rfl) (by simp [GHash.enc_len, GSig.enc_len]) (by simp [GHash.enc_len, GSig.enc_len]) (by simp [GHash.enc_len, GSig.enc_len])
  have e1 : x.enc = (([] : List Value) ++ ([(.int .i64 x.kind)] ++ ([(.int .i64 x.epoch)] ++ ([(.int .i64 x.round)])))) ++ ([(.int .i64 x.replica)] ++ (x.hash.enc ++ (x.sig.enc ++ (([] : List Value))))) := by simp only [GVote.enc, List.nil_append, List.append_assoc, List.append_nil]
  have e2 : ({ x with replica := v } : GVote).enc = (([] : List Value) ++ ([(.int .i64 x.kind)] ++ ([(.int .i64 x.epoch)] ++ ([(.int .i64 x.round)])))) ++ ([(.int .i64 v)] ++ (x.hash.enc ++ (x.sig.enc ++ (([] : List Value))))) := by simp only [GVote.enc, List.nil_append, List.append_assoc, List.append_nil]
  rw [e1, e2]; exact h
theorem fs58_4 (x : GVote) (v : GHash) (rest : List (Nat × Value)) : Instr.fill (fun i => ([(0, 1), (1, 1), (2, 1), (3, 1), (4, 32), (36, 2)] : List (Nat × Nat))[i]?) x.enc.toArray ((4, (v.val)) :: rest) = Instr.fill (fun i => ([(0, 1), (1, 1), (2, 1), (3, 1), (4, 32), (36, 2)] : List (Nat × Nat))[i]?) ({ x with hash := v } : GVote).enc.toArray rest := by
  have h := fill_seg [(0, 1), (1, 1), (2, 1), (3, 1), (4, 32), (36, 2)] 4 4 32 rfl (([] : List Value) ++ ([(.int .i64 x.kind)] ++ ([(.int .i64 x.epoch)] ++ ([(.int .i64 x.round)] ++ ([(.int .i64 x.replica)]))))) (x.hash.enc) (x.sig.enc ++ (([] : List Value))) (v.enc) (v.val) rest (by rw [GHash.val_eq]; rfl) (by simp [GHash.enc_len, GSig.enc_len]) (by simp [GHash.enc_len, GSig.enc_len]) (by simp [GHash.enc_len, GSig.enc_len])
  have e1 : x.enc = (([] : List Value) ++ ([(.int .i64 x.kind)] ++ ([(.int .i64 x.epoch)] ++ ([(.int .i64 x.round)] ++ ([(.int .i64 x.replica)]))))) ++ (x.hash.enc ++ (x.sig.enc ++ (([] : List Value)))) := by simp only [GVote.enc, List.nil_append, List.append_assoc, List.append_nil]
  have e2 : ({ x with hash := v } : GVote).enc = (([] : List Value) ++ ([(.int .i64 x.kind)] ++ ([(.int .i64 x.epoch)] ++ ([(.int .i64 x.round)] ++ ([(.int .i64 x.replica)]))))) ++ (v.enc ++ (x.sig.enc ++ (([] : List Value)))) := by simp only [GVote.enc, List.nil_append, List.append_assoc, List.append_nil]
  rw [e1, e2]; exact h
@[go_sem ↓ high] theorem xd_GVote (ρ : Operand → Value) (dst : Option Tmp) (ps : Array (Nat × Operand)) (ty : TypeId) (pos : String) (after : Array Edge) (guard : Option (Nat × Bool)) : execOp ρ { dst, op := .build 58 ps, type := ty, pos, after, guard } = (do pure (.value (← gBuild 58 (ps.map fun (i, x) => (i, ρ x))))) := ex_build ..
@[go_sem ↓ high] theorem bd58_0 (w : World) (v0 : Int) (v1 : Int) (v2 : Int) (v3 : Int) (v4 : GHash) : (gBuild 58 #[(0, (.int .i64 v0)), (1, (.int .i64 v1)), (2, (.int .i64 v2)), (3, (.int .i64 v3)), (4, (v4.val))]).run Tryz.prog w = .ok (GVote.val ⟨v0, v1, v2, v3, v4, default⟩) w := by
  rw [GVote.val_eq]
  refine run_gBuild_of uu58 zr58 pl58 ?_ w
  show Instr.fill _ (GVote.enc default).toArray [(0, (.int .i64 v0)), (1, (.int .i64 v1)), (2, (.int .i64 v2)), (3, (.int .i64 v3)), (4, (v4.val))] = _
  rw [fs58_0, fs58_1, fs58_2, fs58_3, fs58_4]; rfl
theorem eq_GVote (w : World) (d : Nat) (x y : GVote) : (Op.equalIn (d + 3) 58 (GVote.val x) (GVote.val y)).run Tryz.prog w = .ok (decide (x = y)) w := by
  have q0 : ∀ a b, (Op.equalIn (d + 2) 3 (.int .i64 a) (.int .i64 b)).run Tryz.prog w = .ok (decide (a = b)) w := fun a b => by rw [run_equalIn_int w (d + 1) 3 .i64 .i64 a b uk3]; congr 1
  have q1 : ∀ a b, (Op.equalIn (d + 2) 3 (.int .i64 a) (.int .i64 b)).run Tryz.prog w = .ok (decide (a = b)) w := fun a b => by rw [run_equalIn_int w (d + 1) 3 .i64 .i64 a b uk3]; congr 1
  have q2 : ∀ a b, (Op.equalIn (d + 2) 3 (.int .i64 a) (.int .i64 b)).run Tryz.prog w = .ok (decide (a = b)) w := fun a b => by rw [run_equalIn_int w (d + 1) 3 .i64 .i64 a b uk3]; congr 1
  have q3 : ∀ a b, (Op.equalIn (d + 2) 3 (.int .i64 a) (.int .i64 b)).run Tryz.prog w = .ok (decide (a = b)) w := fun a b => by rw [run_equalIn_int w (d + 1) 3 .i64 .i64 a b uk3]; congr 1
  have q4 : (Op.equalIn (d + 2) 35 x.hash.val y.hash.val).run Tryz.prog w = .ok (decide (x.hash = y.hash)) w := eq_GHash w (d + 0) _ _
  have q5 : (Op.equalIn (d + 2) 37 x.sig.val y.sig.val).run Tryz.prog w = .ok (decide (x.sig = y.sig)) w := eq_GSig w (d + 0) _ _
  have h := run_equalIn_fields (d + 2) x.enc.toArray y.enc.toArray w uu58 st58 nb58
  rw [fl58] at h
  unfold GVote.val
  refine h.trans ?_
  clear h
  simp only [eqFs, Sem.run_bind, pt58_0, pt58_1, pt58_2, pt58_3, pt58_4, pt58_5, q0, q1, q2, q3, q4, q5, Result.andThen_ok, Sem.run_ite, Sem.run_pure]
  have he : decide (x = y) = (decide (x.kind = y.kind) && (decide (x.epoch = y.epoch) && (decide (x.round = y.round) && (decide (x.replica = y.replica) && (decide (x.hash = y.hash) && (decide (x.sig = y.sig))))))) := by
    rw [Bool.eq_iff_iff]; simp only [Bool.and_eq_true, decide_eq_true_eq]; exact GVote.ext_all x y
  rw [he]
  generalize decide (x.kind = y.kind) = c0; generalize decide (x.epoch = y.epoch) = c1; generalize decide (x.round = y.round) = c2; generalize decide (x.replica = y.replica) = c3; generalize decide (x.hash = y.hash) = c4; generalize decide (x.sig = y.sig) = c5
  cases c0 <;> cases c1 <;> cases c2 <;> cases c3 <;> cases c4 <;> cases c5 <;> simp
@[go_sem ↓ high] theorem xq_GVote (ρ : Operand → Value) (dst : Option Tmp) (x y : Operand) (ty yt : TypeId) (pos : String) (after : Array Edge) (guard : Option (Nat × Bool)) : execOp ρ { dst, op := .binOp .eql 58 x y yt, type := ty, pos, after, guard } = (do pure (.value (← gBin .eql 58 x y (ρ x) (ρ y)))) := ex_eql ..
theorem eg_GVote : Tryz.prog.eqGuardType Tryz.prog.depth 58 = false := by kernel_rfl
@[go_sem ↓ high] theorem eql_GVote (w : World) (ox oy : Operand) (x y : GVote) : (gBin .eql 58 ox oy (GVote.val x) (GVote.val y)).run Tryz.prog w = .ok (.bool (decide (x = y))) w := by
  have h2 := eq_GVote w 9997 x y
  rw [GVote.val_eq, GVote.val_eq] at h2 ⊢
  have h := run_eqGuard_agg (P := Tryz.prog) w .eql 58 ox oy (Enc.enc x).toArray (Enc.enc y).toArray eg_GVote
  unfold gBin
  simp only [Sem.run_bind, h, Result.andThen_ok, run_eql_struct, h2]
/-! ### gavel/api.Ack -/
structure GAck where
  replica : Int
  name : GName
  hash : GHash
  median : Int
  sig : GSig
deriving DecidableEq
instance : Inhabited GAck := ⟨⟨0, default, default, 0, default⟩⟩
def GAck.enc (x : GAck) : List Value := [(.int .i64 x.replica)] ++ (x.name.enc ++ (x.hash.enc ++ ([(.int .u64 x.median)] ++ (x.sig.enc))))
theorem GAck.enc_len (x : GAck) : x.enc.length = 38 := by simp [GAck.enc, GHash.enc_len, GName.enc_len, GSig.enc_len]
theorem GAck.enc_one (x : GAck) : ∀ u ∈ x.enc, u.oneCell' = true := by
  intro u hu
  simp only [GAck.enc, List.mem_append, List.mem_singleton] at hu
  rcases hu with hu | hu | hu | hu | hu
  · subst hu; rfl
  · exact Enc.one (α := GName) _ _ hu
  · exact Enc.one (α := GHash) _ _ hu
  · subst hu; rfl
  · exact Enc.one (α := GSig) _ _ hu
theorem GAck.enc_inj (x y : GAck) (h : x.enc = y.enc) : x = y := by
  obtain ⟨a0, a1, a2, a3, a4⟩ := x
  obtain ⟨b0, b1, b2, b3, b4⟩ := y
  simp only [GAck.enc] at h
  obtain ⟨p0, q0⟩ := List.append_inj h (rfl)
  have e0 : a0 = b0 := by have := List.head_eq_of_cons_eq p0; injection this
  obtain ⟨p1, q1⟩ := List.append_inj q0 (by simp [GName.enc_len])
  have e1 := Enc.inj (α := GName) _ _ p1
  obtain ⟨p2, q2⟩ := List.append_inj q1 (by simp [GHash.enc_len])
  have e2 := Enc.inj (α := GHash) _ _ p2
  obtain ⟨p3, q3⟩ := List.append_inj q2 (rfl)
  have e3 : a3 = b3 := by have := List.head_eq_of_cons_eq p3; injection this
  have e4 := Enc.inj (α := GSig) _ _ q3
  rw [e0, e1, e2, e3, e4]
instance : Enc GAck where
  n := 38
  enc := GAck.enc
  pos := by omega
  len := GAck.enc_len
  one := GAck.enc_one
  inj := GAck.enc_inj
@[go_sem] theorem GAck.n_eq : Enc.n GAck = 38 := rfl
@[irreducible] def GAck.val (x : GAck) : Value := .agg x.enc.toArray
theorem GAck.val_eq (x : GAck) : GAck.val x = .agg (Enc.enc x).toArray := by unfold GAck.val; rfl
theorem GAck.ext_all (x y : GAck) : x = y ↔ x.replica = y.replica ∧ x.name = y.name ∧ x.hash = y.hash ∧ x.median = y.median ∧ x.sig = y.sig := by
  constructor
  · intro h; cases h; simp
  · intro h; cases x; cases y; simp_all
theorem uu46 : Tryz.prog.underlying 46 = some (.struct (Tryz.prog.fieldsOf 46)) := by kernel_rfl
theorem st46 : Tryz.prog.stoodInHeld 46 = false := by kernel_rfl
theorem fl46 : fieldTO Tryz.prog 46 = [(3, 0), (33, 1), (35, 3), (22, 35), (37, 36)] := by kernel_rfl
theorem nb46 : noBlank Tryz.prog 46 = true := by kernel_rfl
@[go_sem ↓ high] theorem xl_GAck (ρ : Operand → Value) (dst : Option Tmp) (x : Operand) (ty : TypeId) (pos : String) (after : Array Edge) (guard : Option (Nat × Bool)) : execOp ρ { dst, op := .load 46 x, type := ty, pos, after, guard } = (do pure (.value (← gLoad 46 (ρ x)))) := ex_load ..
theorem ag46 : aggT Tryz.prog 46 = true := by kernel_rfl
theorem sz46 : sizeT Tryz.prog 46 = 38 := by kernel_rfl
section
variable (w : World)
@[go_sem ↓ high] theorem ld_GAck (a : Addr) : (gLoad 46 (.pointer (some a))).run Tryz.prog w = ofOpt ((get? GAck w a).map GAck.val) w (noLoad Tryz.prog 46 a w) := by
  unfold gLoad; exact run_loadAt_opt ag46 sz46 GAck.val GAck.val_eq
end
theorem lk46_0 (x : GAck) : x.enc[0]? = some (.int .i64 x.replica) := by
  simp [GAck.enc, List.getElem?_append]
theorem pt46_0 (w : World) (x : GAck) : (part 3 x.enc.toArray 0).run Tryz.prog w = .ok (.int .i64 x.replica) w := run_part_one na3 us3 (lk46_0 x)
theorem ds46_1 (x : GAck) : (x.enc.drop 1).take 2 = x.name.enc := by
  unfold GAck.enc
  simp [List.drop_append, List.drop_eq_nil_of_le] <;> (rw [List.take_append_of_le_length (by simp [GName.enc_len])]; exact List.take_of_length_le (by simp [GName.enc_len]))
theorem pt46_1 (w : World) (x : GAck) : (part 33 x.enc.toArray 1).run Tryz.prog w = .ok (x.name.val) w := by
  have h := run_part_agg (P := Tryz.prog) (w := w) (cs := x.enc) (ds := x.name.enc) (off := 1) ag33 (by rw [GName.enc_len]; exact sz33) (by simp [GName.enc_len]) (by rw [GName.enc_len]; exact ds46_1 x)
  rw [h, GName.val_eq]; rfl
theorem ds46_2 (x : GAck) : (x.enc.drop 3).take 32 = x.hash.enc := by
  unfold GAck.enc
  simp [List.drop_append, List.drop_eq_nil_of_le, GName.enc_len] <;> (rw [List.take_append_of_le_length (by simp [GHash.enc_len])]; exact List.take_of_length_le (by simp [GHash.enc_len]))
theorem pt46_2 (w : World) (x : GAck) : (part 35 x.enc.toArray 3).run Tryz.prog w = .ok (x.hash.val) w := by
  have h := run_part_agg (P := Tryz.prog) (w := w) (cs := x.enc) (ds := x.hash.enc) (off := 3) ag35 (by rw [GHash.enc_len]; exact sz35) (by simp [GHash.enc_len]) (by rw [GHash.enc_len]; exact ds46_2 x)
  rw [h, GHash.val_eq]; rfl
theorem lk46_3 (x : GAck) : x.enc[35]? = some (.int .u64 x.median) := by
  simp [GAck.enc, List.getElem?_append, GHash.enc_len, GName.enc_len]
theorem pt46_3 (w : World) (x : GAck) : (part 22 x.enc.toArray 35).run Tryz.prog w = .ok (.int .u64 x.median) w := run_part_one na22 us22 (lk46_3 x)
theorem ds46_4 (x : GAck) : (x.enc.drop 36).take 2 = x.sig.enc := by
  unfold GAck.enc
  simp [List.drop_append, List.drop_eq_nil_of_le, GHash.enc_len, GName.enc_len] <;> (exact List.take_of_length_le (by simp [GSig.enc_len]))
theorem pt46_4 (w : World) (x : GAck) : (part 37 x.enc.toArray 36).run Tryz.prog w = .ok (x.sig.val) w := by
  have h := run_part_agg (P := Tryz.prog) (w := w) (cs := x.enc) (ds := x.sig.enc) (off := 36) ag37 (by rw [GSig.enc_len]; exact sz37) (by simp [GSig.enc_len]) (by rw [GSig.enc_len]; exact ds46_4 x)
  rw [h, GSig.val_eq]; rfl
theorem eq_GAck (w : World) (d : Nat) (x y : GAck) : (Op.equalIn (d + 3) 46 (GAck.val x) (GAck.val y)).run Tryz.prog w = .ok (decide (x = y)) w := by
  have q0 : ∀ a b, (Op.equalIn (d + 2) 3 (.int .i64 a) (.int .i64 b)).run Tryz.prog w = .ok (decide (a = b)) w := fun a b => by rw [run_equalIn_int w (d + 1) 3 .i64 .i64 a b uk3]; congr 1
  have q1 : (Op.equalIn (d + 2) 33 x.name.val y.name.val).run Tryz.prog w = .ok (decide (x.name = y.name)) w := eq_GName w (d + 0) _ _
  have q2 : (Op.equalIn (d + 2) 35 x.hash.val y.hash.val).run Tryz.prog w = .ok (decide (x.hash = y.hash)) w := eq_GHash w (d + 0) _ _
  have q3 : ∀ a b, (Op.equalIn (d + 2) 22 (.int .u64 a) (.int .u64 b)).run Tryz.prog w = .ok (decide (a = b)) w := fun a b => by rw [run_equalIn_int w (d + 1) 22 .u64 .u64 a b uk22]; congr 1
  have q4 : (Op.equalIn (d + 2) 37 x.sig.val y.sig.val).run Tryz.prog w = .ok (decide (x.sig = y.sig)) w := eq_GSig w (d + 0) _ _
  have h := run_equalIn_fields (d + 2) x.enc.toArray y.enc.toArray w uu46 st46 nb46
  rw [fl46] at h
  unfold GAck.val
  refine h.trans ?_
  clear h
  simp only [eqFs, Sem.run_bind, pt46_0, pt46_1, pt46_2, pt46_3, pt46_4, q0, q1, q2, q3, q4, Result.andThen_ok, Sem.run_ite, Sem.run_pure]
  have he : decide (x = y) = (decide (x.replica = y.replica) && (decide (x.name = y.name) && (decide (x.hash = y.hash) && (decide (x.median = y.median) && (decide (x.sig = y.sig)))))) := by
    rw [Bool.eq_iff_iff]; simp only [Bool.and_eq_true, decide_eq_true_eq]; exact GAck.ext_all x y
  rw [he]
  generalize decide (x.replica = y.replica) = c0; generalize decide (x.name = y.name) = c1; generalize decide (x.hash = y.hash) = c2; generalize decide (x.median = y.median) = c3; generalize decide (x.sig = y.sig) = c4
  cases c0 <;> cases c1 <;> cases c2 <;> cases c3 <;> cases c4 <;> simp
@[go_sem ↓ high] theorem xq_GAck (ρ : Operand → Value) (dst : Option Tmp) (x y : Operand) (ty yt : TypeId) (pos : String) (after : Array Edge) (guard : Option (Nat × Bool)) : execOp ρ { dst, op := .binOp .eql 46 x y yt, type := ty, pos, after, guard } = (do pure (.value (← gBin .eql 46 x y (ρ x) (ρ y)))) := ex_eql ..
theorem eg_GAck : Tryz.prog.eqGuardType Tryz.prog.depth 46 = false := by kernel_rfl
@[go_sem ↓ high] theorem eql_GAck (w : World) (ox oy : Operand) (x y : GAck) : (gBin .eql 46 ox oy (GAck.val x) (GAck.val y)).run Tryz.prog w = .ok (.bool (decide (x = y))) w := by
  have h2 := eq_GAck w 9997 x y
  rw [GAck.val_eq, GAck.val_eq] at h2 ⊢
  have h := run_eqGuard_agg (P := Tryz.prog) w .eql 46 ox oy (Enc.enc x).toArray (Enc.enc y).toArray eg_GAck
  unfold gBin
  simp only [Sem.run_bind, h, Result.andThen_ok, run_eql_struct, h2]
/-! ### gavel/api.Proposal -/
structure GProposal where
  epoch : Int
  round : Int
  valid : Int
  replica : Int
  batch : GBatch
  sig : GSig
deriving DecidableEq
instance : Inhabited GProposal := ⟨⟨0, 0, 0, 0, default, default⟩⟩
def GProposal.enc (x : GProposal) : List Value := [(.int .i64 x.epoch)] ++ ([(.int .i64 x.round)] ++ ([(.int .i64 x.valid)] ++ ([(.int .i64 x.replica)] ++ (x.batch.enc ++ (x.sig.enc)))))
theorem GProposal.enc_len (x : GProposal) : x.enc.length = 11 := by simp [GProposal.enc, GBatch.enc_len, GSig.enc_len]
theorem GProposal.enc_one (x : GProposal) : ∀ u ∈ x.enc, u.oneCell' = true := by
  intro u hu
  simp only [GProposal.enc, List.mem_append, List.mem_singleton] at hu
  rcases hu with hu | hu | hu | hu | hu | hu
  · subst hu; rfl
  · subst hu; rfl
  · subst hu; rfl
  · subst hu; rfl
  · exact Enc.one (α := GBatch) _ _ hu
  · exact Enc.one (α := GSig) _ _ hu
theorem GProposal.enc_inj (x y : GProposal) (h : x.enc = y.enc) : x = y := by
  obtain ⟨a0, a1, a2, a3, a4, a5⟩ := x
  obtain ⟨b0, b1, b2, b3, b4, b5⟩ := y
  simp only [GProposal.enc] at h
  obtain ⟨p0, q0⟩ := List.append_inj h (rfl)
  have e0 : a0 = b0 := by have := List.head_eq_of_cons_eq p0; injection this
  obtain ⟨p1, q1⟩ := List.append_inj q0 (rfl)
  have e1 : a1 = b1 := by have := List.head_eq_of_cons_eq p1; injection this
  obtain ⟨p2, q2⟩ := List.append_inj q1 (rfl)
  have e2 : a2 = b2 := by have := List.head_eq_of_cons_eq p2; injection this
  obtain ⟨p3, q3⟩ := List.append_inj q2 (rfl)
  have e3 : a3 = b3 := by have := List.head_eq_of_cons_eq p3; injection this
  obtain ⟨p4, q4⟩ := List.append_inj q3 (by simp [GBatch.enc_len])
  have e4 := Enc.inj (α := GBatch) _ _ p4
  have e5 := Enc.inj (α := GSig) _ _ q4
  rw [e0, e1, e2, e3, e4, e5]
instance : Enc GProposal where
  n := 11
  enc := GProposal.enc
  pos := by omega
  len := GProposal.enc_len
  one := GProposal.enc_one
  inj := GProposal.enc_inj
@[go_sem] theorem GProposal.n_eq : Enc.n GProposal = 11 := rfl
@[irreducible] def GProposal.val (x : GProposal) : Value := .agg x.enc.toArray
theorem GProposal.val_eq (x : GProposal) : GProposal.val x = .agg (Enc.enc x).toArray := by unfold GProposal.val; rfl
@[go_sem ↓ high] theorem xl_GProposal (ρ : Operand → Value) (dst : Option Tmp) (x : Operand) (ty : TypeId) (pos : String) (after : Array Edge) (guard : Option (Nat × Bool)) : execOp ρ { dst, op := .load 56 x, type := ty, pos, after, guard } = (do pure (.value (← gLoad 56 (ρ x)))) := ex_load ..
@[go_sem ↓ high] theorem xb_GProposal (ρ : Operand → Value) (dst : Option Tmp) (x : Operand) (ty : TypeId) (pos : String) (after : Array Edge) (guard : Option (Nat × Bool)) : execOp ρ { dst, op := .box 56 x, type := ty, pos, after, guard } = (do pure (.value (← gBox 56 (ρ x)))) := ex_box ..
theorem ag56 : aggT Tryz.prog 56 = true := by kernel_rfl
theorem sz56 : sizeT Tryz.prog 56 = 11 := by kernel_rfl
section
variable (w : World)
@[go_sem ↓ high] theorem ld_GProposal (a : Addr) : (gLoad 56 (.pointer (some a))).run Tryz.prog w = ofOpt ((get? GProposal w a).map GProposal.val) w (noLoad Tryz.prog 56 a w) := by
  unfold gLoad; exact run_loadAt_opt ag56 sz56 GProposal.val GProposal.val_eq
@[go_sem ↓ high] theorem bx_GProposal (x : GProposal) : (gBox 56 (GProposal.val x)).run Tryz.prog w = .ok (.pointer (some ⟨w.heap.size, 0, none⟩)) (w.alloc (.cells (GProposal.enc x).toArray 56)) := by
  rw [GProposal.val_eq]; exact run_gBox _ w
end
theorem lk56_0 (x : GProposal) : x.enc[0]? = some (.int .i64 x.epoch) := by
  simp [GProposal.enc, List.getElem?_append]
theorem lk56_1 (x : GProposal) : x.enc[1]? = some (.int .i64 x.round) := by
  simp [GProposal.enc, List.getElem?_append]
theorem lk56_2 (x : GProposal) : x.enc[2]? = some (.int .i64 x.valid) := by
  simp [GProposal.enc, List.getElem?_append]
theorem lk56_3 (x : GProposal) : x.enc[3]? = some (.int .i64 x.replica) := by
  simp [GProposal.enc, List.getElem?_append]
theorem ds56_4 (x : GProposal) : (x.enc.drop 4).take 5 = x.batch.enc := by
  unfold GProposal.enc
  simp [List.drop_append, List.drop_eq_nil_of_le] <;> (rw [List.take_append_of_le_length (by simp [GBatch.enc_len])]; exact List.take_of_length_le (by simp [GBatch.enc_len]))
theorem ds56_5 (x : GProposal) : (x.enc.drop 9).take 2 = x.sig.enc := by
  unfold GProposal.enc
  simp [List.drop_append, List.drop_eq_nil_of_le, GBatch.enc_len] <;> (exact List.take_of_length_le (by simp [GSig.enc_len]))
theorem GProposal.at_epoch {w : World} {a : Addr} {x : GProposal} (h : get? GProposal w a = some x) : w.cell? (a.add 0) = some (.int .i64 x.epoch) := (get?_iff.1 h) _ _ (lk56_0 x)
theorem GProposal.at_round {w : World} {a : Addr} {x : GProposal} (h : get? GProposal w a = some x) : w.cell? (a.add 1) = some (.int .i64 x.round) := (get?_iff.1 h) _ _ (lk56_1 x)
theorem GProposal.at_valid {w : World} {a : Addr} {x : GProposal} (h : get? GProposal w a = some x) : w.cell? (a.add 2) = some (.int .i64 x.valid) := (get?_iff.1 h) _ _ (lk56_2 x)
theorem GProposal.at_replica {w : World} {a : Addr} {x : GProposal} (h : get? GProposal w a = some x) : w.cell? (a.add 3) = some (.int .i64 x.replica) := (get?_iff.1 h) _ _ (lk56_3 x)
theorem GProposal.at_batch {w : World} {a : Addr} {x : GProposal} (h : get? GProposal w a = some x) : get? GBatch w (a.add 4) = some x.batch := by
  rw [get?_iff] at h ⊢
  refine h.sub 4 fun j v hv => ?_
  have hd := ds56_4 x
  have hj : j < 5 := by have := (List.getElem?_eq_some_iff.1 hv).1; rwa [Enc.len] at this
  show x.enc[4 + j]? = some v
  rw [← List.getElem?_drop, ← List.getElem?_take_of_lt hj, hd]; exact hv
theorem GProposal.at_sig {w : World} {a : Addr} {x : GProposal} (h : get? GProposal w a = some x) : get? GSig w (a.add 9) = some x.sig := by
  rw [get?_iff] at h ⊢
  refine h.sub 9 fun j v hv => ?_
  have hd := ds56_5 x
  have hj : j < 2 := by have := (List.getElem?_eq_some_iff.1 hv).1; rwa [Enc.len] at this
  show x.enc[9 + j]? = some v
  rw [← List.getElem?_drop, ← List.getElem?_take_of_lt hj, hd]; exact hv
/-! ### gavel/api.Decided -/
structure GDecided where
  epoch : Int
  round : Int
  batch : GBatch
  votes : Hdr
deriving DecidableEq
instance : Inhabited GDecided := ⟨⟨0, 0, default, default⟩⟩
def GDecided.enc (x : GDecided) : List Value := [(.int .i64 x.epoch)] ++ ([(.int .i64 x.round)] ++ (x.batch.enc ++ ([(x.votes.val)])))
theorem GDecided.enc_len (x : GDecided) : x.enc.length = 8 := by simp [GDecided.enc, GBatch.enc_len]
theorem GDecided.enc_one (x : GDecided) : ∀ u ∈ x.enc, u.oneCell' = true := by
  intro u hu
  simp only [GDecided.enc, List.mem_append, List.mem_singleton] at hu
  rcases hu with hu | hu | hu | hu
  · subst hu; rfl
  · subst hu; rfl
  · exact Enc.one (α := GBatch) _ _ hu
  · subst hu; rfl
theorem GDecided.enc_inj (x y : GDecided) (h : x.enc = y.enc) : x = y := by
  obtain ⟨a0, a1, a2, a3⟩ := x
  obtain ⟨b0, b1, b2, b3⟩ := y
  simp only [GDecided.enc] at h
  obtain ⟨p0, q0⟩ := List.append_inj h (rfl)
  have e0 : a0 = b0 := by have := List.head_eq_of_cons_eq p0; injection this
  obtain ⟨p1, q1⟩ := List.append_inj q0 (rfl)
  have e1 : a1 = b1 := by have := List.head_eq_of_cons_eq p1; injection this
  obtain ⟨p2, q2⟩ := List.append_inj q1 (by simp [GBatch.enc_len])
  have e2 := Enc.inj (α := GBatch) _ _ p2
  have e3 : a3 = b3 := Enc.inj (α := Hdr) _ _ q2
  rw [e0, e1, e2, e3]
instance : Enc GDecided where
  n := 8
  enc := GDecided.enc
  pos := by omega
  len := GDecided.enc_len
  one := GDecided.enc_one
  inj := GDecided.enc_inj
@[go_sem] theorem GDecided.n_eq : Enc.n GDecided = 8 := rfl
@[irreducible] def GDecided.val (x : GDecided) : Value := .agg x.enc.toArray
section
variable (w : World)
end
theorem lk68_0 (x : GDecided) : x.enc[0]? = some (.int .i64 x.epoch) := by
  simp [GDecided.enc, List.getElem?_append]
theorem lk68_1 (x : GDecided) : x.enc[1]? = some (.int .i64 x.round) := by
  simp [GDecided.enc, List.getElem?_append]
theorem ds68_2 (x : GDecided) : (x.enc.drop 2).take 5 = x.batch.enc := by
  unfold GDecided.enc
  simp [List.drop_append, List.drop_eq_nil_of_le] <;> (rw [List.take_append_of_le_length (by simp [GBatch.enc_len])]; exact List.take_of_length_le (by simp [GBatch.enc_len]))
theorem lk68_3 (x : GDecided) : x.enc[7]? = some (x.votes.val) := by
  simp [GDecided.enc, List.getElem?_append, GBatch.enc_len]
theorem GDecided.at_epoch {w : World} {a : Addr} {x : GDecided} (h : get? GDecided w a = some x) : w.cell? (a.add 0) = some (.int .i64 x.epoch) := (get?_iff.1 h) _ _ (lk68_0 x)
theorem GDecided.at_round {w : World} {a : Addr} {x : GDecided} (h : get? GDecided w a = some x) : w.cell? (a.add 1) = some (.int .i64 x.round) := (get?_iff.1 h) _ _ (lk68_1 x)
theorem GDecided.at_batch {w : World} {a : Addr} {x : GDecided} (h : get? GDecided w a = some x) : get? GBatch w (a.add 2) = some x.batch := by
  rw [get?_iff] at h ⊢
  refine h.sub 2 fun j v hv => ?_
  have hd := ds68_2 x
  have hj : j < 5 := by have := (List.getElem?_eq_some_iff.1 hv).1; rwa [Enc.len] at this
  show x.enc[2 + j]? = some v
  rw [← List.getElem?_drop, ← List.getElem?_take_of_lt hj, hd]; exact hv
theorem GDecided.at_votes {w : World} {a : Addr} {x : GDecided} (h : get? GDecided w a = some x) : w.cell? (a.add 7) = some (x.votes.val) := (get?_iff.1 h) _ _ (lk68_3 x)
/-! ### gavel/api.Msg -/
structure GMsg where
  kind : Int
  from_ : Int
  to : Int
  commit : GCommit
  stamp : GStamp
  cert : GCert
  ack : GAck
  epoch : Int
  round : Int
  time : Int
  promise : GPromise
  proposal : GProposal
  vote : GVote
  index : Int
  entry : GEntry
  opening : GOpening
  deny : GDeny
  reply : ByteArray
  decided : GDecided
deriving DecidableEq
instance : Inhabited GMsg := ⟨⟨0, 0, 0, default, default, default, default, 0, 0, 0, default, default, default, 0, default, default, default, ByteArray.empty, default⟩⟩
def GMsg.enc (x : GMsg) : List Value := [(.int .i64 x.kind)] ++ ([(.int .i64 x.from_)] ++ ([(.int .i64 x.to)] ++ (x.commit.enc ++ (x.stamp.enc ++ (x.cert.enc ++ (x.ack.enc ++ ([(.int .i64 x.epoch)] ++ ([(.int .i64 x.round)] ++ ([(.int .u64 x.time)] ++ (x.promise.enc ++ (x.proposal.enc ++ (x.vote.enc ++ ([(.int .i64 x.index)] ++ (x.entry.enc ++ (x.opening.enc ++ (x.deny.enc ++ ([(.string x.reply)] ++ (x.decided.enc))))))))))))))))))
theorem GMsg.enc_len (x : GMsg) : x.enc.length = 295 := by simp [GMsg.enc, GAck.enc_len, GCert.enc_len, GCommit.enc_len, GDecided.enc_len, GDeny.enc_len, GEntry.enc_len, GOpening.enc_len, GPromise.enc_len, GProposal.enc_len, GStamp.enc_len, GVote.enc_len]
theorem GMsg.enc_one (x : GMsg) : ∀ u ∈ x.enc, u.oneCell' = true := by
  intro u hu
  simp only [GMsg.enc, List.mem_append, List.mem_singleton] at hu
  rcases hu with hu | hu | hu | hu | hu | hu | hu | hu | hu | hu | hu | hu | hu | hu | hu | hu | hu | hu | hu
  · subst hu; rfl
  · subst hu; rfl
  · subst hu; rfl
  · exact Enc.one (α := GCommit) _ _ hu
  · exact Enc.one (α := GStamp) _ _ hu
  · exact Enc.one (α := GCert) _ _ hu
  · exact Enc.one (α := GAck) _ _ hu
  · subst hu; rfl
  · subst hu; rfl
  · subst hu; rfl
  · exact Enc.one (α := GPromise) _ _ hu
  · exact Enc.one (α := GProposal) _ _ hu
  · exact Enc.one (α := GVote) _ _ hu
  · subst hu; rfl
  · exact Enc.one (α := GEntry) _ _ hu
  · exact Enc.one (α := GOpening) _ _ hu
  · exact Enc.one (α := GDeny) _ _ hu
  · subst hu; rfl
  · exact Enc.one (α := GDecided) _ _ hu
theorem GMsg.enc_inj (x y : GMsg) (h : x.enc = y.enc) : x = y := by
  obtain ⟨a0, a1, a2, a3, a4, a5, a6, a7, a8, a9, a10, a11, a12, a13, a14, a15, a16, a17, a18⟩ := x
  obtain ⟨b0, b1, b2, b3, b4, b5, b6, b7, b8, b9, b10, b11, b12, b13, b14, b15, b16, b17, b18⟩ := y
  simp only [GMsg.enc] at h
  obtain ⟨p0, q0⟩ := List.append_inj h (rfl)
  have e0 : a0 = b0 := by have := List.head_eq_of_cons_eq p0; injection this
  obtain ⟨p1, q1⟩ := List.append_inj q0 (rfl)
  have e1 : a1 = b1 := by have := List.head_eq_of_cons_eq p1; injection this
  obtain ⟨p2, q2⟩ := List.append_inj q1 (rfl)
  have e2 : a2 = b2 := by have := List.head_eq_of_cons_eq p2; injection this
  obtain ⟨p3, q3⟩ := List.append_inj q2 (by simp [GCommit.enc_len])
  have e3 := Enc.inj (α := GCommit) _ _ p3
  obtain ⟨p4, q4⟩ := List.append_inj q3 (by simp [GStamp.enc_len])
  have e4 := Enc.inj (α := GStamp) _ _ p4
  obtain ⟨p5, q5⟩ := List.append_inj q4 (by simp [GCert.enc_len])
  have e5 := Enc.inj (α := GCert) _ _ p5
  obtain ⟨p6, q6⟩ := List.append_inj q5 (by simp [GAck.enc_len])
  have e6 := Enc.inj (α := GAck) _ _ p6
  obtain ⟨p7, q7⟩ := List.append_inj q6 (rfl)
  have e7 : a7 = b7 := by have := List.head_eq_of_cons_eq p7; injection this
  obtain ⟨p8, q8⟩ := List.append_inj q7 (rfl)
  have e8 : a8 = b8 := by have := List.head_eq_of_cons_eq p8; injection this
  obtain ⟨p9, q9⟩ := List.append_inj q8 (rfl)
  have e9 : a9 = b9 := by have := List.head_eq_of_cons_eq p9; injection this
  obtain ⟨p10, q10⟩ := List.append_inj q9 (by simp [GPromise.enc_len])
  have e10 := Enc.inj (α := GPromise) _ _ p10
  obtain ⟨p11, q11⟩ := List.append_inj q10 (by simp [GProposal.enc_len])
  have e11 := Enc.inj (α := GProposal) _ _ p11
  obtain ⟨p12, q12⟩ := List.append_inj q11 (by simp [GVote.enc_len])
  have e12 := Enc.inj (α := GVote) _ _ p12
  obtain ⟨p13, q13⟩ := List.append_inj q12 (rfl)
  have e13 : a13 = b13 := by have := List.head_eq_of_cons_eq p13; injection this
  obtain ⟨p14, q14⟩ := List.append_inj q13 (by simp [GEntry.enc_len])
  have e14 := Enc.inj (α := GEntry) _ _ p14
  obtain ⟨p15, q15⟩ := List.append_inj q14 (by simp [GOpening.enc_len])
  have e15 := Enc.inj (α := GOpening) _ _ p15
  obtain ⟨p16, q16⟩ := List.append_inj q15 (by simp [GDeny.enc_len])
  have e16 := Enc.inj (α := GDeny) _ _ p16
  obtain ⟨p17, q17⟩ := List.append_inj q16 (rfl)
  have e17 : a17 = b17 := by have := List.head_eq_of_cons_eq p17; injection this
  have e18 := Enc.inj (α := GDecided) _ _ q17
  rw [e0, e1, e2, e3, e4, e5, e6, e7, e8, e9, e10, e11, e12, e13, e14, e15, e16, e17, e18]
instance : Enc GMsg where
  n := 295
  enc := GMsg.enc
  pos := by omega
  len := GMsg.enc_len
  one := GMsg.enc_one
  inj := GMsg.enc_inj
@[go_sem] theorem GMsg.n_eq : Enc.n GMsg = 295 := rfl
@[irreducible] def GMsg.val (x : GMsg) : Value := .agg x.enc.toArray
theorem GMsg.val_eq (x : GMsg) : GMsg.val x = .agg (Enc.enc x).toArray := by unfold GMsg.val; rfl
theorem uu70 : Tryz.prog.underlying 70 = some (.struct (Tryz.prog.fieldsOf 70)) := by kernel_rfl
@[go_sem ↓ high] theorem xl_GMsg (ρ : Operand → Value) (dst : Option Tmp) (x : Operand) (ty : TypeId) (pos : String) (after : Array Edge) (guard : Option (Nat × Bool)) : execOp ρ { dst, op := .load 70 x, type := ty, pos, after, guard } = (do pure (.value (← gLoad 70 (ρ x)))) := ex_load ..
@[go_sem ↓ high] theorem xs_GMsg (ρ : Operand → Value) (dst : Option Tmp) (x y : Operand) (ty : TypeId) (pos : String) (after : Array Edge) (guard : Option (Nat × Bool)) : execOp ρ { dst, op := .store 70 x y, type := ty, pos, after, guard } = (do gStore 70 (ρ x) (ρ y); pure .skip) := ex_store ..
@[go_sem ↓ high] theorem xb_GMsg (ρ : Operand → Value) (dst : Option Tmp) (x : Operand) (ty : TypeId) (pos : String) (after : Array Edge) (guard : Option (Nat × Bool)) : execOp ρ { dst, op := .box 70 x, type := ty, pos, after, guard } = (do pure (.value (← gBox 70 (ρ x)))) := ex_box ..
@[go_sem ↓ high] theorem xa_GMsg (ρ : Operand → Value) (dst : Option Tmp) (ty : TypeId) (pos : String) (after : Array Edge) (guard : Option (Nat × Bool)) : execOp ρ { dst, op := .alloc 70, type := ty, pos, after, guard } = (do pure (.value (← gAlloc 70))) := ex_alloc ..
theorem ag70 : aggT Tryz.prog 70 = true := by kernel_rfl
theorem sz70 : sizeT Tryz.prog 70 = 295 := by kernel_rfl
section
variable (w : World)
@[go_sem ↓ high] theorem ld_GMsg (a : Addr) : (gLoad 70 (.pointer (some a))).run Tryz.prog w = ofOpt ((get? GMsg w a).map GMsg.val) w (noLoad Tryz.prog 70 a w) := by
  unfold gLoad; exact run_loadAt_opt ag70 sz70 GMsg.val GMsg.val_eq
@[go_sem ↓ high] theorem st_GMsg (a : Addr) (x : GMsg) : (gStore 70 (.pointer (some a)) (GMsg.val x)).run Tryz.prog w = okU' ((get? GMsg w a).isSome && blkFree w a.block) (World.putCells w a (GMsg.enc x)) (noStore Tryz.prog 70 (.pointer (some a)) (GMsg.val x) w) := run_gStore_any sz70 GMsg.val GMsg.val_eq w a x
@[go_sem ↓ high] theorem bx_GMsg (x : GMsg) : (gBox 70 (GMsg.val x)).run Tryz.prog w = .ok (.pointer (some ⟨w.heap.size, 0, none⟩)) (w.alloc (.cells (GMsg.enc x).toArray 70)) := by
  rw [GMsg.val_eq]; exact run_gBox _ w
end
theorem lk70_0 (x : GMsg) : x.enc[0]? = some (.int .i64 x.kind) := by
  simp [GMsg.enc, List.getElem?_append]
theorem lk70_1 (x : GMsg) : x.enc[1]? = some (.int .i64 x.from_) := by
  simp [GMsg.enc, List.getElem?_append]
theorem lk70_2 (x : GMsg) : x.enc[2]? = some (.int .i64 x.to) := by
  simp [GMsg.enc, List.getElem?_append]
theorem ds70_3 (x : GMsg) : (x.enc.drop 3).take 37 = x.commit.enc := by
  unfold GMsg.enc
  simp [List.drop_append, List.drop_eq_nil_of_le] <;> (rw [List.take_append_of_le_length (by simp [GCommit.enc_len])]; exact List.take_of_length_le (by simp [GCommit.enc_len]))
theorem ds70_4 (x : GMsg) : (x.enc.drop 40).take 38 = x.stamp.enc := by
  unfold GMsg.enc
  simp [List.drop_append, List.drop_eq_nil_of_le, GCommit.enc_len] <;> (rw [List.take_append_of_le_length (by simp [GStamp.enc_len])]; exact List.take_of_length_le (by simp [GStamp.enc_len]))
theorem ds70_5 (x : GMsg) : (x.enc.drop 78).take 38 = x.cert.enc := by
  unfold GMsg.enc
  simp [List.drop_append, List.drop_eq_nil_of_le, GCommit.enc_len, GStamp.enc_len] <;> (rw [List.take_append_of_le_length (by simp [GCert.enc_len])]; exact List.take_of_length_le (by simp [GCert.enc_len]))
theorem ds70_6 (x : GMsg) : (x.enc.drop 116).take 38 = x.ack.enc := by
  unfold GMsg.enc
  simp [List.drop_append, List.drop_eq_nil_of_le, GCert.enc_len, GCommit.enc_len, GStamp.enc_len] <;> (rw [List.take_append_of_le_length (by simp [GAck.enc_len])]; exact List.take_of_length_le (by simp [GAck.enc_len]))
theorem lk70_7 (x : GMsg) : x.enc[154]? = some (.int .i64 x.epoch) := by
  simp [GMsg.enc, List.getElem?_append, GAck.enc_len, GCert.enc_len, GCommit.enc_len, GStamp.enc_len]
theorem lk70_8 (x : GMsg) : x.enc[155]? = some (.int .i64 x.round) := by
  simp [GMsg.enc, List.getElem?_append, GAck.enc_len, GCert.enc_len, GCommit.enc_len, GStamp.enc_len]
theorem lk70_9 (x : GMsg) : x.enc[156]? = some (.int .u64 x.time) := by
  simp [GMsg.enc, List.getElem?_append, GAck.enc_len, GCert.enc_len, GCommit.enc_len, GStamp.enc_len]
theorem ds70_10 (x : GMsg) : (x.enc.drop 157).take 6 = x.promise.enc := by
  unfold GMsg.enc
  simp [List.drop_append, List.drop_eq_nil_of_le, GAck.enc_len, GCert.enc_len, GCommit.enc_len, GStamp.enc_len] <;> (rw [List.take_append_of_le_length (by simp [GPromise.enc_len])]; exact List.take_of_length_le (by simp [GPromise.enc_len]))
theorem ds70_11 (x : GMsg) : (x.enc.drop 163).take 11 = x.proposal.enc := by
  unfold GMsg.enc
  simp [List.drop_append, List.drop_eq_nil_of_le, GAck.enc_len, GCert.enc_len, GCommit.enc_len, GPromise.enc_len, GStamp.enc_len] <;> (rw [List.take_append_of_le_length (by simp [GProposal.enc_len])]; exact List.take_of_length_le (by simp [GProposal.enc_len]))
theorem ds70_12 (x : GMsg) : (x.enc.drop 174).take 38 = x.vote.enc := by
  unfold GMsg.enc
  simp [List.drop_append, List.drop_eq_nil_of_le, GAck.enc_len, GCert.enc_len, GCommit.enc_len, GPromise.enc_len, GProposal.enc_len, GStamp.enc_len] <;> (rw [List.take_append_of_le_length (by simp [GVote.enc_len])]; exact List.take_of_length_le (by simp [GVote.enc_len]))
theorem lk70_13 (x : GMsg) : x.enc[212]? = some (.int .i64 x.index) := by
  simp [GMsg.enc, List.getElem?_append, GAck.enc_len, GCert.enc_len, GCommit.enc_len, GPromise.enc_len, GProposal.enc_len, GStamp.enc_len, GVote.enc_len]
theorem ds70_14 (x : GMsg) : (x.enc.drop 213).take 35 = x.entry.enc := by
  unfold GMsg.enc
  simp [List.drop_append, List.drop_eq_nil_of_le, GAck.enc_len, GCert.enc_len, GCommit.enc_len, GPromise.enc_len, GProposal.enc_len, GStamp.enc_len, GVote.enc_len] <;> (rw [List.take_append_of_le_length (by simp [GEntry.enc_len])]; exact List.take_of_length_le (by simp [GEntry.enc_len]))
theorem ds70_15 (x : GMsg) : (x.enc.drop 248).take 34 = x.opening.enc := by
  unfold GMsg.enc
  simp [List.drop_append, List.drop_eq_nil_of_le, GAck.enc_len, GCert.enc_len, GCommit.enc_len, GEntry.enc_len, GPromise.enc_len, GProposal.enc_len, GStamp.enc_len, GVote.enc_len] <;> (rw [List.take_append_of_le_length (by simp [GOpening.enc_len])]; exact List.take_of_length_le (by simp [GOpening.enc_len]))
theorem ds70_16 (x : GMsg) : (x.enc.drop 282).take 4 = x.deny.enc := by
  unfold GMsg.enc
  simp [List.drop_append, List.drop_eq_nil_of_le, GAck.enc_len, GCert.enc_len, GCommit.enc_len, GEntry.enc_len, GOpening.enc_len, GPromise.enc_len, GProposal.enc_len, GStamp.enc_len, GVote.enc_len] <;> (rw [List.take_append_of_le_length (by simp [GDeny.enc_len])]; exact List.take_of_length_le (by simp [GDeny.enc_len]))
theorem lk70_17 (x : GMsg) : x.enc[286]? = some (.string x.reply) := by
  simp [GMsg.enc, List.getElem?_append, GAck.enc_len, GCert.enc_len, GCommit.enc_len, GDeny.enc_len, GEntry.enc_len, GOpening.enc_len, GPromise.enc_len, GProposal.enc_len, GStamp.enc_len, GVote.enc_len]
theorem ds70_18 (x : GMsg) : (x.enc.drop 287).take 8 = x.decided.enc := by
  unfold GMsg.enc
  simp [List.drop_append, List.drop_eq_nil_of_le, GAck.enc_len, GCert.enc_len, GCommit.enc_len, GDeny.enc_len, GEntry.enc_len, GOpening.enc_len, GPromise.enc_len, GProposal.enc_len, GStamp.enc_len, GVote.enc_len] <;> (exact List.take_of_length_le (by simp [GDecided.enc_len]))
theorem zr70 : zeroT Tryz.prog 70 = some (.agg (GMsg.enc default).toArray) := by kernel_rfl
@[go_sem ↓ high] theorem al_GMsg (w : World) : (gAlloc 70).run Tryz.prog w = .ok (.pointer (some ⟨w.heap.size, 0, none⟩)) (w.alloc (.cells (GMsg.enc default).toArray 70)) := run_zero_alloc zr70 w
theorem GMsg.at_kind {w : World} {a : Addr} {x : GMsg} (h : get? GMsg w a = some x) : w.cell? (a.add 0) = some (.int .i64 x.kind) := (get?_iff.1 h) _ _ (lk70_0 x)
theorem GMsg.at_from_ {w : World} {a : Addr} {x : GMsg} (h : get? GMsg w a = some x) : w.cell? (a.add 1) = some (.int .i64 x.from_) := (get?_iff.1 h) _ _ (lk70_1 x)
theorem GMsg.at_to {w : World} {a : Addr} {x : GMsg} (h : get? GMsg w a = some x) : w.cell? (a.add 2) = some (.int .i64 x.to) := (get?_iff.1 h) _ _ (lk70_2 x)
theorem GMsg.at_commit {w : World} {a : Addr} {x : GMsg} (h : get? GMsg w a = some x) : get? GCommit w (a.add 3) = some x.commit := by
  rw [get?_iff] at h ⊢
  refine h.sub 3 fun j v hv => ?_
  have hd := ds70_3 x
  have hj : j < 37 := by have := (List.getElem?_eq_some_iff.1 hv).1; rwa [Enc.len] at this
  show x.enc[3 + j]? = some v
  rw [← List.getElem?_drop, ← List.getElem?_take_of_lt hj, hd]; exact hv
theorem GMsg.at_stamp {w : World} {a : Addr} {x : GMsg} (h : get? GMsg w a = some x) : get? GStamp w (a.add 40) = some x.stamp := by
  rw [get?_iff] at h ⊢
  refine h.sub 40 fun j v hv => ?_
  have hd := ds70_4 x
  have hj : j < 38 := by have := (List.getElem?_eq_some_iff.1 hv).1; rwa [Enc.len] at this
  show x.enc[40 + j]? = some v
  rw [← List.getElem?_drop, ← List.getElem?_take_of_lt hj, hd]; exact hv
theorem GMsg.at_cert {w : World} {a : Addr} {x : GMsg} (h : get? GMsg w a = some x) : get? GCert w (a.add 78) = some x.cert := by
  rw [get?_iff] at h ⊢
  refine h.sub 78 fun j v hv => ?_
  have hd := ds70_5 x
  have hj : j < 38 := by have := (List.getElem?_eq_some_iff.1 hv).1; rwa [Enc.len] at this
  show x.enc[78 + j]? = some v
  rw [← List.getElem?_drop, ← List.getElem?_take_of_lt hj, hd]; exact hv
theorem GMsg.at_ack {w : World} {a : Addr} {x : GMsg} (h : get? GMsg w a = some x) : get? GAck w (a.add 116) = some x.ack := by
  rw [get?_iff] at h ⊢
  refine h.sub 116 fun j v hv => ?_
  have hd := ds70_6 x
  have hj : j < 38 := by have := (List.getElem?_eq_some_iff.1 hv).1; rwa [Enc.len] at this
  show x.enc[116 + j]? = some v
  rw [← List.getElem?_drop, ← List.getElem?_take_of_lt hj, hd]; exact hv
theorem GMsg.at_epoch {w : World} {a : Addr} {x : GMsg} (h : get? GMsg w a = some x) : w.cell? (a.add 154) = some (.int .i64 x.epoch) := (get?_iff.1 h) _ _ (lk70_7 x)
theorem GMsg.at_round {w : World} {a : Addr} {x : GMsg} (h : get? GMsg w a = some x) : w.cell? (a.add 155) = some (.int .i64 x.round) := (get?_iff.1 h) _ _ (lk70_8 x)
theorem GMsg.at_time {w : World} {a : Addr} {x : GMsg} (h : get? GMsg w a = some x) : w.cell? (a.add 156) = some (.int .u64 x.time) := (get?_iff.1 h) _ _ (lk70_9 x)
theorem GMsg.at_promise {w : World} {a : Addr} {x : GMsg} (h : get? GMsg w a = some x) : get? GPromise w (a.add 157) = some x.promise := by
  rw [get?_iff] at h ⊢
  refine h.sub 157 fun j v hv => ?_
  have hd := ds70_10 x
  have hj : j < 6 := by have := (List.getElem?_eq_some_iff.1 hv).1; rwa [Enc.len] at this
  show x.enc[157 + j]? = some v
  rw [← List.getElem?_drop, ← List.getElem?_take_of_lt hj, hd]; exact hv
theorem GMsg.at_proposal {w : World} {a : Addr} {x : GMsg} (h : get? GMsg w a = some x) : get? GProposal w (a.add 163) = some x.proposal := by
  rw [get?_iff] at h ⊢
  refine h.sub 163 fun j v hv => ?_
  have hd := ds70_11 x
  have hj : j < 11 := by have := (List.getElem?_eq_some_iff.1 hv).1; rwa [Enc.len] at this
  show x.enc[163 + j]? = some v
  rw [← List.getElem?_drop, ← List.getElem?_take_of_lt hj, hd]; exact hv
theorem GMsg.at_vote {w : World} {a : Addr} {x : GMsg} (h : get? GMsg w a = some x) : get? GVote w (a.add 174) = some x.vote := by
  rw [get?_iff] at h ⊢
  refine h.sub 174 fun j v hv => ?_
  have hd := ds70_12 x
  have hj : j < 38 := by have := (List.getElem?_eq_some_iff.1 hv).1; rwa [Enc.len] at this
  show x.enc[174 + j]? = some v
  rw [← List.getElem?_drop, ← List.getElem?_take_of_lt hj, hd]; exact hv
theorem GMsg.at_index {w : World} {a : Addr} {x : GMsg} (h : get? GMsg w a = some x) : w.cell? (a.add 212) = some (.int .i64 x.index) := (get?_iff.1 h) _ _ (lk70_13 x)
theorem GMsg.at_entry {w : World} {a : Addr} {x : GMsg} (h : get? GMsg w a = some x) : get? GEntry w (a.add 213) = some x.entry := by
  rw [get?_iff] at h ⊢
  refine h.sub 213 fun j v hv => ?_
  have hd := ds70_14 x
  have hj : j < 35 := by have := (List.getElem?_eq_some_iff.1 hv).1; rwa [Enc.len] at this
  show x.enc[213 + j]? = some v
  rw [← List.getElem?_drop, ← List.getElem?_take_of_lt hj, hd]; exact hv
theorem GMsg.at_opening {w : World} {a : Addr} {x : GMsg} (h : get? GMsg w a = some x) : get? GOpening w (a.add 248) = some x.opening := by
  rw [get?_iff] at h ⊢
  refine h.sub 248 fun j v hv => ?_
  have hd := ds70_15 x
  have hj : j < 34 := by have := (List.getElem?_eq_some_iff.1 hv).1; rwa [Enc.len] at this
  show x.enc[248 + j]? = some v
  rw [← List.getElem?_drop, ← List.getElem?_take_of_lt hj, hd]; exact hv
theorem GMsg.at_deny {w : World} {a : Addr} {x : GMsg} (h : get? GMsg w a = some x) : get? GDeny w (a.add 282) = some x.deny := by
  rw [get?_iff] at h ⊢
  refine h.sub 282 fun j v hv => ?_
  have hd := ds70_16 x
  have hj : j < 4 := by have := (List.getElem?_eq_some_iff.1 hv).1; rwa [Enc.len] at this
  show x.enc[282 + j]? = some v
  rw [← List.getElem?_drop, ← List.getElem?_take_of_lt hj, hd]; exact hv
theorem GMsg.at_reply {w : World} {a : Addr} {x : GMsg} (h : get? GMsg w a = some x) : w.cell? (a.add 286) = some (.string x.reply) := (get?_iff.1 h) _ _ (lk70_17 x)
theorem GMsg.at_decided {w : World} {a : Addr} {x : GMsg} (h : get? GMsg w a = some x) : get? GDecided w (a.add 287) = some x.decided := by
  rw [get?_iff] at h ⊢
  refine h.sub 287 fun j v hv => ?_
  have hd := ds70_18 x
  have hj : j < 8 := by have := (List.getElem?_eq_some_iff.1 hv).1; rwa [Enc.len] at this
  show x.enc[287 + j]? = some v
  rw [← List.getElem?_drop, ← List.getElem?_take_of_lt hj, hd]; exact hv
@[go_sem] theorem nl70_1 (x : GMsg) : x.enc[1]? = some (.int .i64 x.from_) := by
  have h := (GMsg.at_from_ (get?_new (w := (default : World)) 70 x))
  simp only [Addr.add_lit, Nat.zero_add, Nat.reduceAdd, World.cell?_alloc_new, List.getElem?_toArray] at h
  exact h
@[go_sem] theorem nl70_2 (x : GMsg) : x.enc[2]? = some (.int .i64 x.to) := by
  have h := (GMsg.at_to (get?_new (w := (default : World)) 70 x))
  simp only [Addr.add_lit, Nat.zero_add, Nat.reduceAdd, World.cell?_alloc_new, List.getElem?_toArray] at h
  exact h
theorem pl70 : ((Tryz.prog.fieldsOf 70).toList.mapM fun f => (Tryz.prog.info? f.type).map fun i => (f.offset, i.size)) = some [(0, 1), (1, 1), (2, 1), (3, 37), (40, 38), (78, 38), (116, 38), (154, 1), (155, 1), (156, 1), (157, 6), (163, 11), (174, 38), (212, 1), (213, 35), (248, 34), (282, 4), (286, 1), (287, 8)] := by kernel_rfl
theorem fs70_0 (x : GMsg) (v : Int) (rest : List (Nat × Value)) : Instr.fill (fun i => ([(0, 1), (1, 1), (2, 1), (3, 37), (40, 38), (78, 38), (116, 38), (154, 1), (155, 1), (156, 1), (157, 6), (163, 11), (174, 38), (212, 1), (213, 35), (248, 34), (282, 4), (286, 1), (287, 8)] : List (Nat × Nat))[i]?) x.enc.toArray ((0, (.int .i64 v)) :: rest) = Instr.fill (fun i => ([(0, 1), (1, 1), (2, 1), (3, 37), (40, 38), (78, 38), (116, 38), (154, 1), (155, 1), (156, 1), (157, 6), (163, 11), (174, 38), (212, 1), (213, 35), (248, 34), (282, 4), (286, 1), (287, 8)] : List (Nat × Nat))[i]?) ({ x with kind := v } : GMsg).enc.toArray rest := by
  have h := fill_seg [(0, 1), (1, 1), (2, 1), (3, 37), (40, 38), (78, 38), (116, 38), (154, 1), (155, 1), (156, 1), (157, 6), (163, 11), (174, 38), (212, 1), (213, 35), (248, 34), (282, 4), (286, 1), (287, 8)] 0 0 1 rfl (([] : List Value)) ([(.int .i64 x.kind)]) ([(.int .i64 x.from_)] ++ ([(.int .i64 x.to)] ++ (x.commit.enc ++ (x.stamp.enc ++ (x.cert.enc ++ (x.ack.enc ++ ([(.int .i64 x.epoch)] ++ ([(.int .i64 x.round)] ++ ([(.int .u64 x.time)] ++ (x.promise.enc ++ (x.proposal.enc ++ (x.vote.enc ++ ([(.int .i64 x.index)] ++ (x.entry.enc ++ (x.opening.enc ++ (x.deny.enc ++ ([(.string x.reply)] ++ (x.decided.enc ++ (([] : List Value)))))))))))))))))))) ([(.int .i64 v)]) (.int .i64 v) rest (rfl) (by simp [GAck.enc_len, GCert.enc_len, GCommit.enc_len, GDecided.enc_len, GDeny.enc_len, GEntry.enc_len, GOpening.enc_len, GPromise.enc_len, GProposal.enc_len, GStamp.enc_len, GVote.enc_len]) (by simp [GAck.enc_len, GCert.enc_len, GCommit.enc_len, GDecided.enc_len, GDeny.enc_len, GEntry.enc_len, GOpening.enc_len, GPromise.enc_len, GProposal.enc_len, GStamp.enc_len, GVote.enc_len]) (by simp [GAck.enc_len, GCert.enc_len, GCommit.enc_len, GDecided.enc_len, GDeny.enc_len, GEntry.enc_len, GOpening.enc_len, GPromise.enc_len, GProposal.enc_len, GStamp.enc_len, GVote.enc_len])
  have e1 : x.enc = (([] : List Value)) ++ ([(.int .i64 x.kind)] ++ ([(.int .i64 x.from_)] ++ ([(.int .i64 x.to)] ++ (x.commit.enc ++ (x.stamp.enc ++ (x.cert.enc ++ (x.ack.enc ++ ([(.int .i64 x.epoch)] ++ ([(.int .i64 x.round)] ++ ([(.int .u64 x.time)] ++ (x.promise.enc ++ (x.proposal.enc ++ (x.vote.enc ++ ([(.int .i64 x.index)] ++ (x.entry.enc ++ (x.opening.enc ++ (x.deny.enc ++ ([(.string x.reply)] ++ (x.decided.enc ++ (([] : List Value))))))))))))))))))))) := by simp only [GMsg.enc, List.nil_append, List.append_assoc, List.append_nil]
  have e2 : ({ x with kind := v } : GMsg).enc = (([] : List Value)) ++ ([(.int .i64 v)] ++ ([(.int .i64 x.from_)] ++ ([(.int .i64 x.to)] ++ (x.commit.enc ++ (x.stamp.enc ++ (x.cert.enc ++ (x.ack.enc ++ ([(.int .i64 x.epoch)] ++ ([(.int .i64 x.round)] ++ ([(.int .u64 x.time)] ++ (x.promise.enc ++ (x.proposal.enc ++ (x.vote.enc ++ ([(.int .i64 x.index)] ++ (x.entry.enc ++ (x.opening.enc ++ (x.deny.enc ++ ([(.string x.reply)] ++ (x.decided.enc ++ (([] : List Value))))))))))))))))))))) := by simp only [GMsg.enc, List.nil_append, List.append_assoc, List.append_nil]
  rw [e1, e2]; exact h
theorem fs70_7 (x : GMsg) (v : Int) (rest : List (Nat × Value)) : Instr.fill (fun i => ([(0, 1), (1, 1), (2, 1), (3, 37), (40, 38), (78, 38), (116, 38), (154, 1), (155, 1), (156, 1), (157, 6), (163, 11), (174, 38), (212, 1), (213, 35), (248, 34), (282, 4), (286, 1), (287, 8)] : List (Nat × Nat))[i]?) x.enc.toArray ((7, (.int .i64 v)) :: rest) = Instr.fill (fun i => ([(0, 1), (1, 1), (2, 1), (3, 37), (40, 38), (78, 38), (116, 38), (154, 1), (155, 1), (156, 1), (157, 6), (163, 11), (174, 38), (212, 1), (213, 35), (248, 34), (282, 4), (286, 1), (287, 8)] : List (Nat × Nat))[i]?) ({ x with epoch := v } : GMsg).enc.toArray rest := by
  have h := fill_seg [(0, 1), (1, 1), (2, 1), (3, 37), (40, 38), (78, 38), (116, 38), (154, 1), (155, 1), (156, 1), (157, 6), (163, 11), (174, 38), (212, 1), (213, 35), (248, 34), (282, 4), (286, 1), (287, 8)] 7 154 1 rfl (([] : List Value) ++ ([(.int .i64 x.kind)] ++ ([(.int .i64 x.from_)] ++ ([(.int .i64 x.to)] ++ (x.commit.enc ++ (x.stamp.enc ++ (x.cert.enc ++ (x.ack.enc)))))))) ([(.int .i64 x.epoch)]) ([(.int .i64 x.round)] ++ ([(.int .u64 x.time)] ++ (x.promise.enc ++ (x.proposal.enc ++ (x.vote.enc ++ ([(.int .i64 x.index)] ++ (x.entry.enc ++ (x.opening.enc ++ (x.deny.enc ++ ([(.string x.reply)] ++ (x.decided.enc ++ (([] : List Value))))))))))))) ([(.int .i64 v)]) (.int .i64 v) rest (rfl) (by simp [GAck.enc_len, GCert.enc_len, GCommit.enc_len, GDecided.enc_len, GDeny.enc_len, GEntry.enc_len, GOpening.enc_len, GPromise.enc_len, GProposal.enc_len, GStamp.enc_len, GVote.enc_len]) (by simp [GAck.enc_len, GCert.enc_len, GCommit.enc_len, GDecided.enc_len, GDeny.enc_len, GEntry.enc_len, GOpening.enc_len, GPromise.enc_len, GProposal.enc_len, GStamp.enc_len, GVote.enc_len]) (by simp [GAck.enc_len, GCert.enc_len, GCommit.enc_len, GDecided.enc_len, GDeny.enc_len, GEntry.enc_len, GOpening.enc_len, GPromise.enc_len, GProposal.enc_len, GStamp.enc_len, GVote.enc_len])
  have e1 : x.enc = (([] : List Value) ++ ([(.int .i64 x.kind)] ++ ([(.int .i64 x.from_)] ++ ([(.int .i64 x.to)] ++ (x.commit.enc ++ (x.stamp.enc ++ (x.cert.enc ++ (x.ack.enc)))))))) ++ ([(.int .i64 x.epoch)] ++ ([(.int .i64 x.round)] ++ ([(.int .u64 x.time)] ++ (x.promise.enc ++ (x.proposal.enc ++ (x.vote.enc ++ ([(.int .i64 x.index)] ++ (x.entry.enc ++ (x.opening.enc ++ (x.deny.enc ++ ([(.string x.reply)] ++ (x.decided.enc ++ (([] : List Value)))))))))))))) := by simp only [GMsg.enc, List.nil_append, List.append_assoc, List.append_nil]
  have e2 : ({ x with epoch := v } : GMsg).enc = (([] : List Value) ++ ([(.int .i64 x.kind)] ++ ([(.int .i64 x.from_)] ++ ([(.int .i64 x.to)] ++ (x.commit.enc ++ (x.stamp.enc ++ (x.cert.enc ++ (x.ack.enc)))))))) ++ ([(.int .i64 v)] ++ ([(.int .i64 x.round)] ++ ([(.int .u64 x.time)] ++ (x.promise.enc ++ (x.proposal.enc ++ (x.vote.enc ++ ([(.int .i64 x.index)] ++ (x.entry.enc ++ (x.opening.enc ++ (x.deny.enc ++ ([(.string x.reply)] ++ (x.decided.enc ++ (([] : List Value)))))))))))))) := by simp only [GMsg.enc, List.nil_append, List.append_assoc, List.append_nil]
  rw [e1, e2]; exact h
theorem fs70_8 (x : GMsg) (v : Int) (rest : List (Nat × Value)) : Instr.fill (fun i => ([(0, 1), (1, 1), (2, 1), (3, 37), (40, 38), (78, 38), (116, 38), (154, 1), (155, 1), (156, 1), (157, 6), (163, 11), (174, 38), (212, 1), (213, 35), (248, 34), (282, 4), (286, 1), (287, 8)] : List (Nat × Nat))[i]?) x.enc.toArray ((8, (.int .i64 v)) :: rest) = Instr.fill (fun i => ([(0, 1), (1, 1), (2, 1), (3, 37), (40, 38), (78, 38), (116, 38), (154, 1), (155, 1), (156, 1), (157, 6), (163, 11), (174, 38), (212, 1), (213, 35), (248, 34), (282, 4), (286, 1), (287, 8)] : List (Nat × Nat))[i]?) ({ x with round := v } : GMsg).enc.toArray rest := by
  have h := fill_seg [(0, 1), (1, 1), (2, 1), (3, 37), (40, 38), (78, 38), (116, 38), (154, 1), (155, 1), (156, 1), (157, 6), (163, 11), (174, 38), (212, 1), (213, 35), (248, 34), (282, 4), (286, 1), (287, 8)] 8 155 1 rfl (([] : List Value) ++ ([(.int .i64 x.kind)] ++ ([(.int .i64 x.from_)] ++ ([(.int .i64 x.to)] ++ (x.commit.enc ++ (x.stamp.enc ++ (x.cert.enc ++ (x.ack.enc ++ ([(.int .i64 x.epoch)]))))))))) ([(.int .i64 x.round)]) ([(.int .u64 x.time)] ++ (x.promise.enc ++ (x.proposal.enc ++ (x.vote.enc ++ ([(.int .i64 x.index)] ++ (x.entry.enc ++ (x.opening.enc ++ (x.deny.enc ++ ([(.string x.reply)] ++ (x.decided.enc ++ (([] : List Value)))))))))))) ([(.int .i64 v)]) (.int .i64 v) rest (rfl) (by simp [GAck.enc_len, GCert.enc_len, GCommit.enc_len, GDecided.enc_len, GDeny.enc_len, GEntry.enc_len, GOpening.enc_len, GPromise.enc_len, GProposal.enc_len, GStamp.enc_len, GVote.enc_len]) (by simp [GAck.enc_len, GCert.enc_len, GCommit.enc_len, GDecided.enc_len, GDeny.enc_len, GEntry.enc_len, GOpening.enc_len, GPromise.enc_len, GProposal.enc_len, GStamp.enc_len, GVote.enc_len]) (by simp [GAck.enc_len, GCert.enc_len, GCommit.enc_len, GDecided.enc_len, GDeny.enc_len, GEntry.enc_len, GOpening.enc_len, GPromise.enc_len, GProposal.enc_len, GStamp.enc_len, GVote.enc_len])
  have e1 : x.enc = (([] : List Value) ++ ([(.int .i64 x.kind)] ++ ([(.int .i64 x.from_)] ++ ([(.int .i64 x.to)] ++ (x.commit.enc ++ (x.stamp.enc ++ (x.cert.enc ++ (x.ack.enc ++ ([(.int .i64 x.epoch)]))))))))) ++ ([(.int .i64 x.round)] ++ ([(.int .u64 x.time)] ++ (x.promise.enc ++ (x.proposal.enc ++ (x.vote.enc ++ ([(.int .i64 x.index)] ++ (x.entry.enc ++ (x.opening.enc ++ (x.deny.enc ++ ([(.string x.reply)] ++ (x.decided.enc ++ (([] : List Value))))))))))))) := by simp only [GMsg.enc, List.nil_append, List.append_assoc, List.append_nil]
  have e2 : ({ x with round := v } : GMsg).enc = (([] : List Value) ++ ([(.int .i64 x.kind)] ++ ([(.int .i64 x.from_)] ++ ([(.int .i64 x.to)] ++ (x.commit.enc ++ (x.stamp.enc ++ (x.cert.enc ++ (x.ack.enc ++ ([(.int .i64 x.epoch)]))))))))) ++ ([(.int .i64 v)] ++ ([(.int .u64 x.time)] ++ (x.promise.enc ++ (x.proposal.enc ++ (x.vote.enc ++ ([(.int .i64 x.index)] ++ (x.entry.enc ++ (x.opening.enc ++ (x.deny.enc ++ ([(.string x.reply)] ++ (x.decided.enc ++ (([] : List Value))))))))))))) := by simp only [GMsg.enc, List.nil_append, List.append_assoc, List.append_nil]
  rw [e1, e2]; exact h
theorem fs70_9 (x : GMsg) (v : Int) (rest : List (Nat × Value)) : Instr.fill (fun i => ([(0, 1), (1, 1), (2, 1), (3, 37), (40, 38), (78, 38), (116, 38), (154, 1), (155, 1), (156, 1), (157, 6), (163, 11), (174, 38), (212, 1), (213, 35), (248, 34), (282, 4), (286, 1), (287, 8)] : List (Nat × Nat))[i]?) x.enc.toArray ((9, (.int .u64 v)) :: rest) = Instr.fill (fun i => ([(0, 1), (1, 1), (2, 1), (3, 37), (40, 38), (78, 38), (116, 38), (154, 1), (155, 1), (156, 1), (157, 6), (163, 11), (174, 38), (212, 1), (213, 35), (248, 34), (282, 4), (286, 1), (287, 8)] : List (Nat × Nat))[i]?) ({ x with time := v } : GMsg).enc.toArray rest := by
  have h := fill_seg [(0, 1), (1, 1), (2, 1), (3, 37), (40, 38), (78, 38), (116, 38), (154, 1), (155, 1), (156, 1), (157, 6), (163, 11), (174, 38), (212, 1), (213, 35), (248, 34), (282, 4), (286, 1), (287, 8)] 9 156 1 rfl (([] : List Value) ++ ([(.int .i64 x.kind)] ++ ([(.int .i64 x.from_)] ++ ([(.int .i64 x.to)] ++ (x.commit.enc ++ (x.stamp.enc ++ (x.cert.enc ++ (x.ack.enc ++ ([(.int .i64 x.epoch)] ++ ([(.int .i64 x.round)])))))))))) ([(.int .u64 x.time)]) (x.promise.enc ++ (x.proposal.enc ++ (x.vote.enc ++ ([(.int .i64 x.index)] ++ (x.entry.enc ++ (x.opening.enc ++ (x.deny.enc ++ ([(.string x.reply)] ++ (x.decided.enc ++ (([] : List Value))))))))))) ([(.int .u64 v)]) (.int .u64 v) rest (rfl) (by simp [GAck.enc_len, GCert.enc_len, GCommit.enc_len, GDecided.enc_len, GDeny.enc_len, GEntry.enc_len, GOpening.enc_len, GPromise.enc_len, GProposal.enc_len, GStamp.enc_len, GVote.enc_len]) (by simp [GAck.enc_len, GCert.enc_len, GCommit.enc_len, GDecided.enc_len, GDeny.enc_len, GEntry.enc_len, GOpening.enc_len, GPromise.enc_len, GProposal.enc_len, GStamp.enc_len, GVote.enc_len]) (by simp [GAck.enc_len, GCert.enc_len, GCommit.enc_len, GDecided.enc_len, GDeny.enc_len, GEntry.enc_len, GOpening.enc_len, GPromise.enc_len, GProposal.enc_len, GStamp.enc_len, GVote.enc_len])
  have e1 : x.enc = (([] : List Value) ++ ([(.int .i64 x.kind)] ++ ([(.int .i64 x.from_)] ++ ([(.int .i64 x.to)] ++ (x.commit.enc ++ (x.stamp.enc ++ (x.cert.enc ++ (x.ack.enc ++ ([(.int .i64 x.epoch)] ++ ([(.int .i64 x.round)])))))))))) ++ ([(.int .u64 x.time)] ++ (x.promise.enc ++ (x.proposal.enc ++ (x.vote.enc ++ ([(.int .i64 x.index)] ++ (x.entry.enc ++ (x.opening.enc ++ (x.deny.enc ++ ([(.string x.reply)] ++ (x.decided.enc ++ (([] : List Value)))))))))))) := by simp only [GMsg.enc, List.nil_append, List.append_assoc, List.append_nil]
  have e2 : ({ x with time := v } : GMsg).enc = (([] : List Value) ++ ([(.int .i64 x.kind)] ++ ([(.int .i64 x.from_)] ++ ([(.int .i64 x.to)] ++ (x.commit.enc ++ (x.stamp.enc ++ (x.cert.enc ++ (x.ack.enc ++ ([(.int .i64 x.epoch)] ++ ([(.int .i64 x.round)])))))))))) ++ ([(.int .u64 v)] ++ (x.promise.enc ++ (x.proposal.enc ++ (x.vote.enc ++ ([(.int .i64 x.index)] ++ (x.entry.enc ++ (x.opening.enc ++ (x.deny.enc ++ ([(.string x.reply)] ++ (x.decided.enc ++ (([] : List Value)))))))))))) := by simp only [GMsg.enc, List.nil_append, List.append_assoc, List.append_nil]
  rw [e1, e2]; exact h
theorem fs70_12 (x : GMsg) (v : GVote) (rest : List (Nat × Value)) : Instr.fill (fun i => ([(0, 1), (1, 1), (2, 1), (3, 37), (40, 38), (78, 38), (116, 38), (154, 1), (155, 1), (156, 1), (157, 6), (163, 11), (174, 38), (212, 1), (213, 35), (248, 34), (282, 4), (286, 1), (287, 8)] : List (Nat × Nat))[i]?) x.enc.toArray ((12, (v.val)) :: rest) = Instr.fill (fun i => ([(0, 1), (1, 1), (2, 1), (3, 37), (40, 38), (78, 38), (116, 38), (154, 1), (155, 1), (156, 1), (157, 6), (163, 11), (174, 38), (212, 1), (213, 35), (248, 34), (282, 4), (286, 1), (287, 8)] : List (Nat × Nat))[i]?) ({ x with vote := v } : GMsg).enc.toArray rest := by
  have h := fill_seg [(0, 1), (1, 1), (2, 1), (3, 37), (40, 38), (78, 38), (116, 38), (154, 1), (155, 1), (156, 1), (157, 6), (163, 11), (174, 38), (212, 1), (213, 35), (248, 34), (282, 4), (286, 1), (287, 8)] 12 174 38 rfl (([] : List Value) ++ ([(.int .i64 x.kind)] ++ ([(.int .i64 x.from_)] ++ ([(.int .i64 x.to)] ++ (x.commit.enc ++ (x.stamp.enc ++ (x.cert.enc ++ (x.ack.enc ++ ([(.int .i64 x.epoch)] ++ ([(.int .i64 x.round)] ++ ([(.int .u64 x.time)] ++ (x.promise.enc ++ (x.proposal.enc))))))))))))) (x.vote.enc) ([(.int .i64 x.index)] ++ (x.entry.enc ++ (x.opening.enc ++ (x.deny.enc ++ ([(.string x.reply)] ++ (x.decided.enc ++ (([] : List Value)))))))) (v.enc) (v.val) rest (by rw [GVote.val_eq]; rfl) (by simp [GAck.enc_len, GCert.enc_len, GCommit.enc_len, GDecided.enc_len, GDeny.enc_len, GEntry.enc_len, GOpening.enc_len, GPromise.enc_len, GProposal.enc_len, GStamp.enc_len, GVote.enc_len]) (by simp [GAck.enc_len, GCert.enc_len, GCommit.enc_len, GDecided.enc_len, GDeny.enc_len, GEntry.enc_len, GOpening.enc_len, GPromise.enc_len, GProposal.enc_len, GStamp.enc_len, GVote.enc_len]) (by simp [GAck.enc_len, GCert.enc_len, GCommit.enc_len, GDecided.enc_len, GDeny.enc_len, GEntry.enc_len, GOpening.enc_len, GPromise.enc_len, GProposal.enc_len, GStamp.enc_len, GVote.enc_len])
  have e1 : x.enc = (([] : List Value) ++ ([(.int .i64 x.kind)] ++ ([(.int .i64 x.from_)] ++ ([(.int .i64 x.to)] ++ (x.commit.enc ++ (x.stamp.enc ++ (x.cert.enc ++ (x.ack.enc ++ ([(.int .i64 x.epoch)] ++ ([(.int .i64 x.round)] ++ ([(.int .u64 x.time)] ++ (x.promise.enc ++ (x.proposal.enc))))))))))))) ++ (x.vote.enc ++ ([(.int .i64 x.index)] ++ (x.entry.enc ++ (x.opening.enc ++ (x.deny.enc ++ ([(.string x.reply)] ++ (x.decided.enc ++ (([] : List Value))))))))) := by simp only [GMsg.enc, List.nil_append, List.append_assoc, List.append_nil]
  have e2 : ({ x with vote := v } : GMsg).enc = (([] : List Value) ++ ([(.int .i64 x.kind)] ++ ([(.int .i64 x.from_)] ++ ([(.int .i64 x.to)] ++ (x.commit.enc ++ (x.stamp.enc ++ (x.cert.enc ++ (x.ack.enc ++ ([(.int .i64 x.epoch)] ++ ([(.int .i64 x.round)] ++ ([(.int .u64 x.time)] ++ (x.promise.enc ++ (x.proposal.enc))))))))))))) ++ (v.enc ++ ([(.int .i64 x.index)] ++ (x.entry.enc ++ (x.opening.enc ++ (x.deny.enc ++ ([(.string x.reply)] ++ (x.decided.enc ++ (([] : List Value))))))))) := by simp only [GMsg.enc, List.nil_append, List.append_assoc, List.append_nil]
  rw [e1, e2]; exact h
@[go_sem ↓ high] theorem xd_GMsg (ρ : Operand → Value) (dst : Option Tmp) (ps : Array (Nat × Operand)) (ty : TypeId) (pos : String) (after : Array Edge) (guard : Option (Nat × Bool)) : execOp ρ { dst, op := .build 70 ps, type := ty, pos, after, guard } = (do pure (.value (← gBuild 70 (ps.map fun (i, x) => (i, ρ x))))) := ex_build ..
@[go_sem ↓ high] theorem bd70_8 (w : World) (v0 : Int) (v12 : GVote) : (gBuild 70 #[(0, (.int .i64 v0)), (12, (v12.val))]).run Tryz.prog w = .ok (GMsg.val ⟨v0, 0, 0, default, default, default, default, 0, 0, 0, default, default, v12, 0, default, default, default, ByteArray.empty, default⟩) w := by
  rw [GMsg.val_eq]
  refine run_gBuild_of uu70 zr70 pl70 ?_ w
  show Instr.fill _ (GMsg.enc default).toArray [(0, (.int .i64 v0)), (12, (v12.val))] = _
  rw [fs70_0, fs70_12]; rfl
@[go_sem ↓ high] theorem bd70_13 (w : World) (v0 : Int) (v7 : Int) (v8 : Int) (v9 : Int) : (gBuild 70 #[(0, (.int .i64 v0)), (7, (.int .i64 v7)), (8, (.int .i64 v8)), (9, (.int .u64 v9))]).run Tryz.prog w = .ok (GMsg.val ⟨v0, 0, 0, default, default, default, default, v7, v8, v9, default, default, default, 0, default, default, default, ByteArray.empty, default⟩) w := by
  rw [GMsg.val_eq]
  refine run_gBuild_of uu70 zr70 pl70 ?_ w
  show Instr.fill _ (GMsg.enc default).toArray [(0, (.int .i64 v0)), (7, (.int .i64 v7)), (8, (.int .i64 v8)), (9, (.int .u64 v9))] = _
  rw [fs70_0, fs70_7, fs70_8, fs70_9]; rfl
/-! ### []api.Msg -/
theorem ei30 : ElemI Tryz.prog 30 70 GMsg 960 := ⟨by kernel_rfl, by kernel_rfl⟩
@[go_sem ↓ high] theorem xg_30 (ρ : Operand → Value) (dst : Option Tmp) (ps : Array (Nat × Operand)) (ty : TypeId) (pos : String) (after : Array Edge) (guard : Option (Nat × Bool)) : execOp ρ { dst, op := .buildSlice 30 1 ps, type := ty, pos, after, guard } = (do pure (.value (← gBuildSlice 30 1 (ps.map fun (i, x) => (i, ρ x))))) := ex_buildSlice ..
@[go_sem ↓ high] theorem bs_30 (w : World) (x : GMsg) : (gBuildSlice 30 1 #[(0, GMsg.val x)]).run Tryz.prog w = .ok (.slice (some ⟨w.heap.size, 0, none⟩) 1 1) (w.alloc (.cells (GMsg.enc x).toArray 70)) := by
  rw [GMsg.val_eq]; exact run_buildSlice_one ei30 (by decide) x w
/-! ### []api.Vote -/
end Go.Proofs.YtfhhcgldikmejaaGreatDoor
/- The struct types of this seat as Lean types, with the runs of single operations over them. Conditions: those named in each theorem. -/
namespace Go.Proofs.YtfhhcgldikmejaaGreatDoor
open Go Go.RowKit Go.Gv
set_option linter.unusedSimpArgs false

/-! ### gavel/replica.Event -/
structure GReplicaEvent where
  ticks : Int
  msg : GMsg
deriving DecidableEq
instance : Inhabited GReplicaEvent := ⟨⟨0, default⟩⟩
def GReplicaEvent.enc (x : GReplicaEvent) : List Value := [(.int .i64 x.ticks)] ++ (x.msg.enc)
theorem GReplicaEvent.enc_len (x : GReplicaEvent) : x.enc.length = 296 := by simp [GReplicaEvent.enc, GMsg.enc_len]
theorem GReplicaEvent.enc_one (x : GReplicaEvent) : ∀ u ∈ x.enc, u.oneCell' = true := by
  intro u hu
  simp only [GReplicaEvent.enc, List.mem_append, List.mem_singleton] at hu
  rcases hu with hu | hu
  · subst hu; rfl
  · exact Enc.one (α := GMsg) _ _ hu
theorem GReplicaEvent.enc_inj (x y : GReplicaEvent) (h : x.enc = y.enc) : x = y := by
  obtain ⟨a0, a1⟩ := x
  obtain ⟨b0, b1⟩ := y
  simp only [GReplicaEvent.enc] at h
  obtain ⟨p0, q0⟩ := List.append_inj h (rfl)
  have e0 : a0 = b0 := by have := List.head_eq_of_cons_eq p0; injection this
  have e1 := Enc.inj (α := GMsg) _ _ q0
  rw [e0, e1]
instance : Enc GReplicaEvent where
  n := 296
  enc := GReplicaEvent.enc
  pos := by omega
  len := GReplicaEvent.enc_len
  one := GReplicaEvent.enc_one
  inj := GReplicaEvent.enc_inj
@[go_sem] theorem GReplicaEvent.n_eq : Enc.n GReplicaEvent = 296 := rfl
@[irreducible] def GReplicaEvent.val (x : GReplicaEvent) : Value := .agg x.enc.toArray
theorem GReplicaEvent.val_eq (x : GReplicaEvent) : GReplicaEvent.val x = .agg (Enc.enc x).toArray := by unfold GReplicaEvent.val; rfl
theorem uu72 : Tryz.prog.underlying 72 = some (.struct (Tryz.prog.fieldsOf 72)) := by kernel_rfl
@[go_sem ↓ high] theorem xb_GReplicaEvent (ρ : Operand → Value) (dst : Option Tmp) (x : Operand) (ty : TypeId) (pos : String) (after : Array Edge) (guard : Option (Nat × Bool)) : execOp ρ { dst, op := .box 72 x, type := ty, pos, after, guard } = (do pure (.value (← gBox 72 (ρ x)))) := ex_box ..
section
variable (w : World)
@[go_sem ↓ high] theorem bx_GReplicaEvent (x : GReplicaEvent) : (gBox 72 (GReplicaEvent.val x)).run Tryz.prog w = .ok (.pointer (some ⟨w.heap.size, 0, none⟩)) (w.alloc (.cells (GReplicaEvent.enc x).toArray 72)) := by
  rw [GReplicaEvent.val_eq]; exact run_gBox _ w
end
theorem lk72_0 (x : GReplicaEvent) : x.enc[0]? = some (.int .i64 x.ticks) := by
  simp [GReplicaEvent.enc, List.getElem?_append]
theorem ds72_1 (x : GReplicaEvent) : (x.enc.drop 1).take 295 = x.msg.enc := by
  unfold GReplicaEvent.enc
  simp [List.drop_append, List.drop_eq_nil_of_le] <;> (exact List.take_of_length_le (by simp [GMsg.enc_len]))
theorem zr72 : zeroT Tryz.prog 72 = some (.agg (GReplicaEvent.enc default).toArray) := by kernel_rfl
theorem GReplicaEvent.at_ticks {w : World} {a : Addr} {x : GReplicaEvent} (h : get? GReplicaEvent w a = some x) : w.cell? (a.add 0) = some (.int .i64 x.ticks) := (get?_iff.1 h) _ _ (lk72_0 x)
theorem GReplicaEvent.at_msg {w : World} {a : Addr} {x : GReplicaEvent} (h : get? GReplicaEvent w a = some x) : get? GMsg w (a.add 1) = some x.msg := by
  rw [get?_iff] at h ⊢
  refine h.sub 1 fun j v hv => ?_
  have hd := ds72_1 x
  have hj : j < 295 := by have := (List.getElem?_eq_some_iff.1 hv).1; rwa [Enc.len] at this
  show x.enc[1 + j]? = some v
  rw [← List.getElem?_drop, ← List.getElem?_take_of_lt hj, hd]; exact hv
theorem pl72 : ((Tryz.prog.fieldsOf 72).toList.mapM fun f => (Tryz.prog.info? f.type).map fun i => (f.offset, i.size)) = some [(0, 1), (1, 295)] := by kernel_rfl
theorem fs72_0 (x : GReplicaEvent) (v : Int) (rest : List (Nat × Value)) : Instr.fill (fun i => ([(0, 1), (1, 295)] : List (Nat × Nat))[i]?) x.enc.toArray ((0, (.int .i64 v)) :: rest) = Instr.fill (fun i => ([(0, 1), (1, 295)] : List (Nat × Nat))[i]?) ({ x with ticks := v } : GReplicaEvent).enc.toArray rest := by
  have h := fill_seg [(0, 1), (1, 295)] 0 0 1 rfl (([] : List Value)) ([(.int .i64 x.ticks)]) (x.msg.enc ++ (([] : List Value))) ([(.int .i64 v)]) (.int .i64 v) rest (rfl) (by simp [GMsg.enc_len]) (by simp [GMsg.enc_len]) (by simp [GMsg.enc_len])
  have e1 : x.enc = (([] : List Value)) ++ ([(.int .i64 x.ticks)] ++ (x.msg.enc ++ (([] : List Value)))) := by simp only [GReplicaEvent.enc, List.nil_append, List.append_assoc, List.append_nil]
  have e2 : ({ x with ticks := v } : GReplicaEvent).enc = (([] : List Value)) ++ ([(.int .i64 v)] ++ (x.msg.enc ++ (([] : List Value)))) := by simp only [GReplicaEvent.enc, List.nil_append, List.append_assoc, List.append_nil]
  rw [e1, e2]; exact h
@[go_sem ↓ high] theorem xd_GReplicaEvent (ρ : Operand → Value) (dst : Option Tmp) (ps : Array (Nat × Operand)) (ty : TypeId) (pos : String) (after : Array Edge) (guard : Option (Nat × Bool)) : execOp ρ { dst, op := .build 72 ps, type := ty, pos, after, guard } = (do pure (.value (← gBuild 72 (ps.map fun (i, x) => (i, ρ x))))) := ex_build ..
@[go_sem ↓ high] theorem bd72_0 (w : World) (v0 : Int) : (gBuild 72 #[(0, (.int .i64 v0))]).run Tryz.prog w = .ok (GReplicaEvent.val ⟨v0, default⟩) w := by
  rw [GReplicaEvent.val_eq]
  refine run_gBuild_of uu72 zr72 pl72 ?_ w
  show Instr.fill _ (GReplicaEvent.enc default).toArray [(0, (.int .i64 v0))] = _
  rw [fs72_0]; rfl
/-! ### gavel/replica.Replica -/
structure GReplicaReplica where
  c : GConf
  id : Int
  b : Option Addr
  started : Bool
  s : Option Addr
  t : Option Addr
  l : Option Addr
  v : Option Addr
  a : Option Addr
  e : Option Addr
  decided : Hdr
  replies : Hdr
  out : Hdr
deriving DecidableEq
instance : Inhabited GReplicaReplica := ⟨⟨default, 0, none, false, none, none, none, none, none, none, default, default, default⟩⟩
def GReplicaReplica.enc (x : GReplicaReplica) : List Value := x.c.enc ++ ([(.int .i64 x.id)] ++ ([(.pointer x.b)] ++ ([(.bool x.started)] ++ ([(.pointer x.s)] ++ ([(.pointer x.t)] ++ ([(.pointer x.l)] ++ ([(.pointer x.v)] ++ ([(.pointer x.a)] ++ ([(.pointer x.e)] ++ ([(x.decided.val)] ++ ([(x.replies.val)] ++ ([(x.out.val)]))))))))))))
theorem GReplicaReplica.enc_len (x : GReplicaReplica) : x.enc.length = 14 := by simp [GReplicaReplica.enc, GConf.enc_len]
theorem GReplicaReplica.enc_one (x : GReplicaReplica) : ∀ u ∈ x.enc, u.oneCell' = true := by
  intro u hu
  simp only [GReplicaReplica.enc, List.mem_append, List.mem_singleton] at hu
  rcases hu with hu | hu | hu | hu | hu | hu | hu | hu | hu | hu | hu | hu | hu
  · exact Enc.one (α := GConf) _ _ hu
  · subst hu; rfl
  · subst hu; rfl
  · subst hu; rfl
  · subst hu; rfl
  · subst hu; rfl
  · subst hu; rfl
  · subst hu; rfl
  · subst hu; rfl
  · subst hu; rfl
  · subst hu; rfl
  · subst hu; rfl
  · subst hu; rfl
theorem GReplicaReplica.enc_inj (x y : GReplicaReplica) (h : x.enc = y.enc) : x = y := by
  obtain ⟨a0, a1, a2, a3, a4, a5, a6, a7, a8, a9, a10, a11, a12⟩ := x
  obtain ⟨b0, b1, b2, b3, b4, b5, b6, b7, b8, b9, b10, b11, b12⟩ := y
  simp only [GReplicaReplica.enc] at h
  obtain ⟨p0, q0⟩ := List.append_inj h (by simp [GConf.enc_len])
  have e0 := Enc.inj (α := GConf) _ _ p0
  obtain ⟨p1, q1⟩ := List.append_inj q0 (rfl)
  have e1 : a1 = b1 := by have := List.head_eq_of_cons_eq p1; injection this
  obtain ⟨p2, q2⟩ := List.append_inj q1 (rfl)
  have e2 : a2 = b2 := by have := List.head_eq_of_cons_eq p2; injection this
  obtain ⟨p3, q3⟩ := List.append_inj q2 (rfl)
  have e3 : a3 = b3 := by have := List.head_eq_of_cons_eq p3; injection this
  obtain ⟨p4, q4⟩ := List.append_inj q3 (rfl)
  have e4 : a4 = b4 := by have := List.head_eq_of_cons_eq p4; injection this
  obtain ⟨p5, q5⟩ := List.append_inj q4 (rfl)
  have e5 : a5 = b5 := by have := List.head_eq_of_cons_eq p5; injection this
  obtain ⟨p6, q6⟩ := List.append_inj q5 (rfl)
  have e6 : a6 = b6 := by have := List.head_eq_of_cons_eq p6; injection this
  obtain ⟨p7, q7⟩ := List.append_inj q6 (rfl)
  have e7 : a7 = b7 := by have := List.head_eq_of_cons_eq p7; injection this
  obtain ⟨p8, q8⟩ := List.append_inj q7 (rfl)
  have e8 : a8 = b8 := by have := List.head_eq_of_cons_eq p8; injection this
  obtain ⟨p9, q9⟩ := List.append_inj q8 (rfl)
  have e9 : a9 = b9 := by have := List.head_eq_of_cons_eq p9; injection this
  obtain ⟨p10, q10⟩ := List.append_inj q9 (rfl)
  have e10 : a10 = b10 := Enc.inj (α := Hdr) _ _ p10
  obtain ⟨p11, q11⟩ := List.append_inj q10 (rfl)
  have e11 : a11 = b11 := Enc.inj (α := Hdr) _ _ p11
  have e12 : a12 = b12 := Enc.inj (α := Hdr) _ _ q11
  rw [e0, e1, e2, e3, e4, e5, e6, e7, e8, e9, e10, e11, e12]
instance : Enc GReplicaReplica where
  n := 14
  enc := GReplicaReplica.enc
  pos := by omega
  len := GReplicaReplica.enc_len
  one := GReplicaReplica.enc_one
  inj := GReplicaReplica.enc_inj
@[go_sem] theorem GReplicaReplica.n_eq : Enc.n GReplicaReplica = 14 := rfl
@[irreducible] def GReplicaReplica.val (x : GReplicaReplica) : Value := .agg x.enc.toArray
theorem GReplicaReplica.val_eq (x : GReplicaReplica) : GReplicaReplica.val x = .agg (Enc.enc x).toArray := by unfold GReplicaReplica.val; rfl
theorem uu104 : Tryz.prog.underlying 104 = some (.struct (Tryz.prog.fieldsOf 104)) := by kernel_rfl
@[go_sem ↓ high] theorem xb_GReplicaReplica (ρ : Operand → Value) (dst : Option Tmp) (x : Operand) (ty : TypeId) (pos : String) (after : Array Edge) (guard : Option (Nat × Bool)) : execOp ρ { dst, op := .box 104 x, type := ty, pos, after, guard } = (do pure (.value (← gBox 104 (ρ x)))) := ex_box ..
section
variable (w : World)
@[go_sem ↓ high] theorem bx_GReplicaReplica (x : GReplicaReplica) : (gBox 104 (GReplicaReplica.val x)).run Tryz.prog w = .ok (.pointer (some ⟨w.heap.size, 0, none⟩)) (w.alloc (.cells (GReplicaReplica.enc x).toArray 104)) := by
  rw [GReplicaReplica.val_eq]; exact run_gBox _ w
end
theorem ds104_0 (x : GReplicaReplica) : (x.enc.drop 0).take 2 = x.c.enc := by
  unfold GReplicaReplica.enc
  simp only [List.drop_zero] <;> (rw [List.take_append_of_le_length (by simp [GConf.enc_len])]; exact List.take_of_length_le (by simp [GConf.enc_len]))
theorem lk104_1 (x : GReplicaReplica) : x.enc[2]? = some (.int .i64 x.id) := by
  simp [GReplicaReplica.enc, List.getElem?_append, GConf.enc_len]
theorem lk104_2 (x : GReplicaReplica) : x.enc[3]? = some (.pointer x.b) := by
  simp [GReplicaReplica.enc, List.getElem?_append, GConf.enc_len]
theorem lk104_3 (x : GReplicaReplica) : x.enc[4]? = some (.bool x.started) := by
  simp [GReplicaReplica.enc, List.getElem?_append, GConf.enc_len]
theorem lk104_4 (x : GReplicaReplica) : x.enc[5]? = some (.pointer x.s) := by
  simp [GReplicaReplica.enc, List.getElem?_append, GConf.enc_len]
theorem lk104_5 (x : GReplicaReplica) : x.enc[6]? = some (.pointer x.t) := by
  simp [GReplicaReplica.enc, List.getElem?_append, GConf.enc_len]
theorem lk104_6 (x : GReplicaReplica) : x.enc[7]? = some (.pointer x.l) := by
  simp [GReplicaReplica.enc, List.getElem?_append, GConf.enc_len]
theorem lk104_7 (x : GReplicaReplica) : x.enc[8]? = some (.pointer x.v) := by
  simp [GReplicaReplica.enc, List.getElem?_append, GConf.enc_len]
theorem lk104_9 (x : GReplicaReplica) : x.enc[10]? = some (.pointer x.e) := by
  simp [GReplicaReplica.enc, List.getElem?_append, GConf.enc_len]
theorem lk104_12 (x : GReplicaReplica) : x.enc[13]? = some (x.out.val) := by
  simp [GReplicaReplica.enc, List.getElem?_append, GConf.enc_len]
theorem zr104 : zeroT Tryz.prog 104 = some (.agg (GReplicaReplica.enc default).toArray) := by kernel_rfl
theorem GReplicaReplica.at_c {w : World} {a : Addr} {x : GReplicaReplica} (h : get? GReplicaReplica w a = some x) : get? GConf w (a.add 0) = some x.c := by
  rw [get?_iff] at h ⊢
  refine h.sub 0 fun j v hv => ?_
  have hd := ds104_0 x
  have hj : j < 2 := by have := (List.getElem?_eq_some_iff.1 hv).1; rwa [Enc.len] at this
  show x.enc[0 + j]? = some v
  rw [← List.getElem?_drop, ← List.getElem?_take_of_lt hj, hd]; exact hv
theorem GReplicaReplica.at_id {w : World} {a : Addr} {x : GReplicaReplica} (h : get? GReplicaReplica w a = some x) : w.cell? (a.add 2) = some (.int .i64 x.id) := (get?_iff.1 h) _ _ (lk104_1 x)
theorem GReplicaReplica.at_b {w : World} {a : Addr} {x : GReplicaReplica} (h : get? GReplicaReplica w a = some x) : w.cell? (a.add 3) = some (.pointer x.b) := (get?_iff.1 h) _ _ (lk104_2 x)
theorem GReplicaReplica.at_started {w : World} {a : Addr} {x : GReplicaReplica} (h : get? GReplicaReplica w a = some x) : w.cell? (a.add 4) = some (.bool x.started) := (get?_iff.1 h) _ _ (lk104_3 x)
theorem GReplicaReplica.at_s {w : World} {a : Addr} {x : GReplicaReplica} (h : get? GReplicaReplica w a = some x) : w.cell? (a.add 5) = some (.pointer x.s) := (get?_iff.1 h) _ _ (lk104_4 x)
theorem GReplicaReplica.at_t {w : World} {a : Addr} {x : GReplicaReplica} (h : get? GReplicaReplica w a = some x) : w.cell? (a.add 6) = some (.pointer x.t) := (get?_iff.1 h) _ _ (lk104_5 x)
theorem GReplicaReplica.at_l {w : World} {a : Addr} {x : GReplicaReplica} (h : get? GReplicaReplica w a = some x) : w.cell? (a.add 7) = some (.pointer x.l) := (get?_iff.1 h) _ _ (lk104_6 x)
theorem GReplicaReplica.at_v {w : World} {a : Addr} {x : GReplicaReplica} (h : get? GReplicaReplica w a = some x) : w.cell? (a.add 8) = some (.pointer x.v) := (get?_iff.1 h) _ _ (lk104_7 x)
theorem GReplicaReplica.at_e {w : World} {a : Addr} {x : GReplicaReplica} (h : get? GReplicaReplica w a = some x) : w.cell? (a.add 10) = some (.pointer x.e) := (get?_iff.1 h) _ _ (lk104_9 x)
theorem GReplicaReplica.at_out {w : World} {a : Addr} {x : GReplicaReplica} (h : get? GReplicaReplica w a = some x) : w.cell? (a.add 13) = some (x.out.val) := (get?_iff.1 h) _ _ (lk104_12 x)
theorem pl104 : ((Tryz.prog.fieldsOf 104).toList.mapM fun f => (Tryz.prog.info? f.type).map fun i => (f.offset, i.size)) = some [(0, 2), (2, 1), (3, 1), (4, 1), (5, 1), (6, 1), (7, 1), (8, 1), (9, 1), (10, 1), (11, 1), (12, 1), (13, 1)] := by kernel_rfl
theorem fs104_0 (x : GReplicaReplica) (v : GConf) (rest : List (Nat × Value)) : Instr.fill (fun i => ([(0, 2), (2, 1), (3, 1), (4, 1), (5, 1), (6, 1), (7, 1), (8, 1), (9, 1), (10, 1), (11, 1), (12, 1), (13, 1)] : List (Nat × Nat))[i]?) x.enc.toArray ((0, (v.val)) :: rest) = Instr.fill (fun i => ([(0, 2), (2, 1), (3, 1), (4, 1), (5, 1), (6, 1), (7, 1), (8, 1), (9, 1), (10, 1), (11, 1), (12, 1), (13, 1)] : List (Nat × Nat))[i]?) ({ x with c := v } : GReplicaReplica).enc.toArray rest := by
  have h := fill_seg [(0, 2), (2, 1), (3, 1), (4, 1), (5, 1), (6, 1), (7, 1), (8, 1), (9, 1), (10, 1), (11, 1), (12, 1), (13, 1)] 0 0 2 rfl (([] : List Value)) (x.c.enc) ([(.int .i64 x.id)] ++ ([(.pointer x.b)] ++ ([(.bool x.started)] ++ ([(.pointer x.s)] ++ ([(.pointer x.t)] ++ ([(.pointer x.l)] ++ ([(.pointer x.v)] ++ ([(.pointer x.a)] ++ ([(.pointer x.e)] ++ ([(x.decided.val)] ++ ([(x.replies.val)] ++ ([(x.out.val)] ++ (([] : List Value)))))))))))))) (v.enc) (v.val) rest (by rw [GConf.val_eq]; rfl) (by simp [GConf.enc_len]) (by simp [GConf.enc_len]) (by simp [GConf.enc_len])
  have e1 : x.enc = (([] : List Value)) ++ (x.c.enc ++ ([(.int .i64 x.id)] ++ ([(.pointer x.b)] ++ ([(.bool x.started)] ++ ([(.pointer x.s)] ++ ([(.pointer x.t)] ++ ([(.pointer x.l)] ++ ([(.pointer x.v)] ++ ([(.pointer x.a)] ++ ([(.pointer x.e)] ++ ([(x.decided.val)] ++ ([(x.replies.val)] ++ ([(x.out.val)] ++ (([] : List Value))))))))))))))) := by simp only [GReplicaReplica.enc, List.nil_append, List.append_assoc, List.append_nil]
  have e2 : ({ x with c := v } : GReplicaReplica).enc = (([] : List Value)) ++ (v.enc ++ ([(.int .i64 x.id)] ++ ([(.pointer x.b)] ++ ([(.bool x.started)] ++ ([(.pointer x.s)] ++ ([(.pointer x.t)] ++ ([(.pointer x.l)] ++ ([(.pointer x.v)] ++ ([(.pointer x.a)] ++ ([(.pointer x.e)] ++ ([(x.decided.val)] ++ ([(x.replies.val)] ++ ([(x.out.val)] ++ (([] : List Value))))))))))))))) := by simp only [GReplicaReplica.enc, List.nil_append, List.append_assoc, List.append_nil]
  rw [e1, e2]; exact h
theorem fs104_1 (x : GReplicaReplica) (v : Int) (rest : List (Nat × Value)) : Instr.fill (fun i => ([(0, 2), (2, 1), (3, 1), (4, 1), (5, 1), (6, 1), (7, 1), (8, 1), (9, 1), (10, 1), (11, 1), (12, 1), (13, 1)] : List (Nat × Nat))[i]?) x.enc.toArray ((1, (.int .i64 v)) :: rest) = Instr.fill (fun i => ([(0, 2), (2, 1), (3, 1), (4, 1), (5, 1), (6, 1), (7, 1), (8, 1), (9, 1), (10, 1), (11, 1), (12, 1), (13, 1)] : List (Nat × Nat))[i]?) ({ x with id := v } : GReplicaReplica).enc.toArray rest := by
  have h := fill_seg [(0, 2), (2, 1), (3, 1), (4, 1), (5, 1), (6, 1), (7, 1), (8, 1), (9, 1), (10, 1), (11, 1), (12, 1), (13, 1)] 1 2 1 rfl (([] : List Value) ++ (x.c.enc)) ([(.int .i64 x.id)]) ([(.pointer x.b)] ++ ([(.bool x.started)] ++ ([(.pointer x.s)] ++ ([(.pointer x.t)] ++ ([(.pointer x.l)] ++ ([(.pointer x.v)] ++ ([(.pointer x.a)] ++ ([(.pointer x.e)] ++ ([(x.decided.val)] ++ ([(x.replies.val)] ++ ([(x.out.val)] ++ (([] : List Value))))))))))))) ([(.int .i64 v)]) (.int .i64 v) rest (rfl) (by simp [GConf.enc_len]) (by simp [GConf.enc_len]) (by simp [GConf.enc_len])
  have e1 : x.enc = (([] : List Value) ++ (x.c.enc)) ++ ([(.int .i64 x.id)] ++ ([(.pointer x.b)] ++ ([(.bool x.started)] ++ ([(.pointer x.s)] ++ ([(.pointer x.t)] ++ ([(.pointer x.l)] ++ ([(.pointer x.v)] ++ ([(.pointer x.a)] ++ ([(.pointer x.e)] ++ ([(x.decided.val)] ++ ([(x.replies.val)] ++ ([(x.out.val)] ++ (([] : List Value)))))))))))))) := by simp only [GReplicaReplica.enc, List.nil_append, List.append_assoc, List.append_nil]
  have e2 : ({ x with id := v } : GReplicaReplica).enc = (([] : List Value) ++ (x.c.enc)) ++ ([(.int .i64 v)] ++ ([(.pointer x.b)] ++ ([(.bool x.started)] ++ ([(.pointer x.s)] ++ ([(.pointer x.t)] ++ ([(.pointer x.l)] ++ ([(.pointer x.v)] ++ ([(.pointer x.a)] ++ ([(.pointer x.e)] ++ ([(x.decided.val)] ++ ([(x.replies.val)] ++ ([(x.out.val)] ++ (([] : List Value)))))))))))))) := by simp only [GReplicaReplica.enc, List.nil_append, List.append_assoc, List.append_nil]
  rw [e1, e2]; exact h
theorem fs104_2 (x : GReplicaReplica) (v : Option Addr) (rest : List (Nat × Value)) : Instr.fill (fun i => ([(0, 2), (2, 1), (3, 1), (4, 1), (5, 1), (6, 1), (7, 1), (8, 1), (9, 1), (10, 1), (11, 1), (12, 1), (13, 1)] : List (Nat × Nat))[i]?) x.enc.toArray ((2, (.pointer v)) :: rest) = Instr.fill (fun i => ([(0, 2), (2, 1), (3, 1), (4, 1), (5, 1), (6, 1), (7, 1), (8, 1), (9, 1), (10, 1), (11, 1), (12, 1), (13, 1)] : List (Nat × Nat))[i]?) ({ x with b := v } : GReplicaReplica).enc.toArray rest := by
  have h := fill_seg [(0, 2), (2, 1), (3, 1), (4, 1), (5, 1), (6, 1), (7, 1), (8, 1), (9, 1), (10, 1), (11, 1), (12, 1), (13, 1)] 2 3 1 rfl (([] : List Value) ++ (x.c.enc ++ ([(.int .i64 x.id)]))) ([(.pointer x.b)]) ([(.bool x.started)] ++ ([(.pointer x.s)] ++ ([(.pointer x.t)] ++ ([(.pointer x.l)] ++ ([(.pointer x.v)] ++ ([(.pointer x.a)] ++ ([(.pointer x.e)] ++ ([(x.decided.val)] ++ ([(x.replies.val)] ++ ([(x.out.val)] ++ (([] : List Value)))))))))))) ([(.pointer v)]) (.pointer v) rest (rfl) (by simp [GConf.enc_len]) (by simp [GConf.enc_len]) (by simp [GConf.enc_len])
  have e1 : x.enc = (([] : List Value) ++ (x.c.enc ++ ([(.int .i64 x.id)]))) ++ ([(.pointer x.b)] ++ ([(.bool x.started)] ++ ([(.pointer x.s)] ++ ([(.pointer x.t)] ++ ([(.pointer x.l)] ++ ([(.pointer x.v)] ++ ([(.pointer x.a)] ++ ([(.pointer x.e)] ++ ([(x.decided.val)] ++ ([(x.replies.val)] ++ ([(x.out.val)] ++ (([] : List Value))))))))))))) := by simp only [GReplicaReplica.enc, List.nil_append, List.append_assoc, List.append_nil]
  have e2 : ({ x with b := v } : GReplicaReplica).enc = (([] : List Value) ++ (x.c.enc ++ ([(.int .i64 x.id)]))) ++ ([(.pointer v)] ++ ([(.bool x.started)] ++ ([(.pointer x.s)] ++ ([(.pointer x.t)] ++ ([(.pointer x.l)] ++ ([(.pointer x.v)] ++ ([(.pointer x.a)] ++ ([(.pointer x.e)] ++ ([(x.decided.val)] ++ ([(x.replies.val)] ++ ([(x.out.val)] ++ (([] : List Value))))))))))))) := by simp only [GReplicaReplica.enc, List.nil_append, List.append_assoc, List.append_nil]
  rw [e1, e2]; exact h
theorem fs104_4 (x : GReplicaReplica) (v : Option Addr) (rest : List (Nat × Value)) : Instr.fill (fun i => ([(0, 2), (2, 1), (3, 1), (4, 1), (5, 1), (6, 1), (7, 1), (8, 1), (9, 1), (10, 1), (11, 1), (12, 1), (13, 1)] : List (Nat × Nat))[i]?) x.enc.toArray ((4, (.pointer v)) :: rest) = Instr.fill (fun i => ([(0, 2), (2, 1), (3, 1), (4, 1), (5, 1), (6, 1), (7, 1), (8, 1), (9, 1), (10, 1), (11, 1), (12, 1), (13, 1)] : List (Nat × Nat))[i]?) ({ x with s := v } : GReplicaReplica).enc.toArray rest := by
  have h := fill_seg [(0, 2), (2, 1), (3, 1), (4, 1), (5, 1), (6, 1), (7, 1), (8, 1), (9, 1), (10, 1), (11, 1), (12, 1), (13, 1)] 4 5 1 rfl (([] : List Value) ++ (x.c.enc ++ ([(.int .i64 x.id)] ++ ([(.pointer x.b)] ++ ([(.bool x.started)]))))) ([(.pointer x.s)]) ([(.pointer x.t)] ++ ([(.pointer x.l)] ++ ([(.pointer x.v)] ++ ([(.pointer x.a)] ++ ([(.pointer x.e)] ++ ([(x.decided.val)] ++ ([(x.replies.val)] ++ ([(x.out.val)] ++ (([] : List Value)))))))))) ([(.pointer v)]) (.pointer v) rest (rfl) (by simp [GConf.enc_len]) (by simp [GConf.enc_len]) (by simp [GConf.enc_len])
  have e1 : x.enc = (([] : List Value) ++ (x.c.enc ++ ([(.int .i64 x.id)] ++ ([(.pointer x.b)] ++ ([(.bool x.started)]))))) ++ ([(.pointer x.s)] ++ ([(.pointer x.t)] ++ ([(.pointer x.l)] ++ ([(.pointer x.v)] ++ ([(.pointer x.a)] ++ ([(.pointer x.e)] ++ ([(x.decided.val)] ++ ([(x.replies.val)] ++ ([(x.out.val)] ++ (([] : List Value))))))))))) := by simp only [GReplicaReplica.enc, List.nil_append, List.append_assoc, List.append_nil]
  have e2 : ({ x with s := v } : GReplicaReplica).enc = (([] : List Value) ++ (x.c.enc ++ ([(.int .i64 x.id)] ++ ([(.pointer x.b)] ++ ([(.bool x.started)]))))) ++ ([(.pointer v)] ++ ([(.pointer x.t)] ++ ([(.pointer x.l)] ++ ([(.pointer x.v)] ++ ([(.pointer x.a)] ++ ([(.pointer x.e)] ++ ([(x.decided.val)] ++ ([(x.replies.val)] ++ ([(x.out.val)] ++ (([] : List Value))))))))))) := by simp only [GReplicaReplica.enc, List.nil_append, List.append_assoc, List.append_nil]
  rw [e1, e2]; exact h
theorem fs104_5 (x : GReplicaReplica) (v : Option Addr) (rest : List (Nat × Value)) : Instr.fill (fun i => ([(0, 2), (2, 1), (3, 1), (4, 1), (5, 1), (6, 1), (7, 1), (8, 1), (9, 1), (10, 1), (11, 1), (12, 1), (13, 1)] : List (Nat × Nat))[i]?) x.enc.toArray ((5, (.pointer v)) :: rest) = Instr.fill (fun i => ([(0, 2), (2, 1), (3, 1), (4, 1), (5, 1), (6, 1), (7, 1), (8, 1), (9, 1), (10, 1), (11, 1), (12, 1), (13, 1)] : List (Nat × Nat))[i]?) ({ x with t := v } : GReplicaReplica).enc.toArray rest := by
  have h := fill_seg [(0, 2), (2, 1), (3, 1), (4, 1), (5, 1), (6, 1), (7, 1), (8, 1), (9, 1), (10, 1), (11, 1), (12, 1), (13, 1)] 5 6 1 rfl (([] : List Value) ++ (x.c.enc ++ ([(.int .i64 x.id)] ++ ([(.pointer x.b)] ++ ([(.bool x.started)] ++ ([(.pointer x.s)])))))) ([(.pointer x.t)]) ([(.pointer x.l)] ++ ([(.pointer x.v)] ++ ([(.pointer x.a)] ++ ([(.pointer x.e)] ++ ([(x.decided.val)] ++ ([(x.replies.val)] ++ ([(x.out.val)] ++ (([] : List Value))))))))) ([(.pointer v)]) (.pointer v) rest (rfl) (by simp [GConf.enc_len]) (by simp [GConf.enc_len]) (by simp [GConf.enc_len])
  have e1 : x.enc = (([] : List Value) ++ (x.c.enc ++ ([(.int .i64 x.id)] ++ ([(.pointer x.b)] ++ ([(.bool x.started)] ++ ([(.pointer x.s)])))))) ++ ([(.pointer x.t)] ++ ([(.pointer x.l)] ++ ([(.pointer x.v)] ++ ([(.pointer x.a)] ++ ([(.pointer x.e)] ++ ([(x.decided.val)] ++ ([(x.replies.val)] ++ ([(x.out.val)] ++ (([] : List Value)))))))))) := by simp only [GReplicaReplica.enc, List.nil_append, List.append_assoc, List.append_nil]
  have e2 : ({ x with t := v } : GReplicaReplica).enc = (([] : List Value) ++ (x.c.enc ++ ([(.int .i64 x.id)] ++ ([(.pointer x.b)] ++ ([(.bool x.started)] ++ ([(.pointer x.s)])))))) ++ ([(.pointer v)] ++ ([(.pointer x.l)] ++ ([(.pointer x.v)] ++ ([(.pointer x.a)] ++ ([(.pointer x.e)] ++ ([(x.decided.val)] ++ ([(x.replies.val)] ++ ([(x.out.val)] ++ (([] : List Value)))))))))) := by simp only [GReplicaReplica.enc, List.nil_append, List.append_assoc, List.append_nil]
  rw [e1, e2]; exact h
theorem fs104_6 (x : GReplicaReplica) (v : Option Addr) (rest : List (Nat × Value)) : Instr.fill (fun i => ([(0, 2), (2, 1), (3, 1), (4, 1), (5, 1), (6, 1), (7, 1), (8, 1), (9, 1), (10, 1), (11, 1), (12, 1), (13, 1)] : List (Nat × Nat))[i]?) x.enc.toArray ((6, (.pointer v)) :: rest) = Instr.fill (fun i => ([(0, 2), (2, 1), (3, 1), (4, 1), (5, 1), (6, 1), (7, 1), (8, 1), (9, 1), (10, 1), (11, 1), (12, 1), (13, 1)] : List (Nat × Nat))[i]?) ({ x with l := v } : GReplicaReplica).enc.toArray rest := by
  have h := fill_seg [(0, 2), (2, 1), (3, 1), (4, 1), (5, 1), (6, 1), (7, 1), (8, 1), (9, 1), (10, 1), (11, 1), (12, 1), (13, 1)] 6 7 1 rfl (([] : List Value) ++ (x.c.enc ++ ([(.int .i64 x.id)] ++ ([(.pointer x.b)] ++ ([(.bool x.started)] ++ ([(.pointer x.s)] ++ ([(.pointer x.t)]))))))) ([(.pointer x.l)]) ([(.pointer x.v)] ++ ([(.pointer x.a)] ++ ([(.pointer x.e)] ++ ([(x.decided.val)] ++ ([(x.replies.val)] ++ ([(x.out.val)] ++ (([] : List Value)))))))) ([(.pointer v)]) (.pointer v) rest (rfl) (by simp [GConf.enc_len]) (by simp [GConf.enc_len]) (by simp [GConf.enc_len])
  have e1 : x.enc = (([] : List Value) ++ (x.c.enc ++ ([(.int .i64 x.id)] ++ ([(.pointer x.b)] ++ ([(.bool x.started)] ++ ([(.pointer x.s)] ++ ([(.pointer x.t)]))))))) ++ ([(.pointer x.l)] ++ ([(.pointer x.v)] ++ ([(.pointer x.a)] ++ ([(.pointer x.e)] ++ ([(x.decided.val)] ++ ([(x.replies.val)] ++ ([(x.out.val)] ++ (([] : List Value))))))))) := by simp only [GReplicaReplica.enc, List.nil_append, List.append_assoc, List.append_nil]
  have e2 : ({ x with l := v } : GReplicaReplica).enc = (([] : List Value) ++ (x.c.enc ++ ([(.int .i64 x.id)] ++ ([(.pointer x.b)] ++ ([(.bool x.started)] ++ ([(.pointer x.s)] ++ ([(.pointer x.t)]))))))) ++ ([(.pointer v)] ++ ([(.pointer x.v)] ++ ([(.pointer x.a)] ++ ([(.pointer x.e)] ++ ([(x.decided.val)] ++ ([(x.replies.val)] ++ ([(x.out.val)] ++ (([] : List Value))))))))) := by simp only [GReplicaReplica.enc, List.nil_append, List.append_assoc, List.append_nil]
  rw [e1, e2]; exact h
theorem fs104_7 (x : GReplicaReplica) (v : Option Addr) (rest : List (Nat × Value)) : Instr.fill (fun i => ([(0, 2), (2, 1), (3, 1), (4, 1), (5, 1), (6, 1), (7, 1), (8, 1), (9, 1), (10, 1), (11, 1), (12, 1), (13, 1)] : List (Nat × Nat))[i]?) x.enc.toArray ((7, (.pointer v)) :: rest) = Instr.fill (fun i => ([(0, 2), (2, 1), (3, 1), (4, 1), (5, 1), (6, 1), (7, 1), (8, 1), (9, 1), (10, 1), (11, 1), (12, 1), (13, 1)] : List (Nat × Nat))[i]?) ({ x with v := v } : GReplicaReplica).enc.toArray rest := by
  have h := fill_seg [(0, 2), (2, 1), (3, 1), (4, 1), (5, 1), (6, 1), (7, 1), (8, 1), (9, 1), (10, 1), (11, 1), (12, 1), (13, 1)] 7 8 1 rfl (([] : List Value) ++ (x.c.enc ++ ([(.int .i64 x.id)] ++ ([(.pointer x.b)] ++ ([(.bool x.started)] ++ ([(.pointer x.s)] ++ ([(.pointer x.t)] ++ ([(.pointer x.l)])))))))) ([(.pointer x.v)]) ([(.pointer x.a)] ++ ([(.pointer x.e)] ++ ([(x.decided.val)] ++ ([(x.replies.val)] ++ ([(x.out.val)] ++ (([] : List Value))))))) ([(.pointer v)]) (.pointer v) rest (rfl) (by simp [GConf.enc_len]) (by simp [GConf.enc_len]) (by simp [GConf.enc_len])
  have e1 : x.enc = (([] : List Value) ++ (x.c.enc ++ ([(.int .i64 x.id)] ++ ([(.pointer x.b)] ++ ([(.bool x.started)] ++ ([(.pointer x.s)] ++ ([(.pointer x.t)] ++ ([(.pointer x.l)])))))))) ++ ([(.pointer x.v)] ++ ([(.pointer x.a)] ++ ([(.pointer x.e)] ++ ([(x.decided.val)] ++ ([(x.replies.val)] ++ ([(x.out.val)] ++ (([] : List Value)))))))) := by simp only [GReplicaReplica.enc, List.nil_append, List.append_assoc, List.append_nil]
  have e2 : ({ x with v := v } : GReplicaReplica).enc = (([] : List Value) ++ (x.c.enc ++ ([(.int .i64 x.id)] ++ ([(.pointer x.b)] ++ ([(.bool x.started)] ++ ([(.pointer x.s)] ++ ([(.pointer x.t)] ++ ([(.pointer x.l)])))))))) ++ ([(.pointer v)] ++ ([(.pointer x.a)] ++ ([(.pointer x.e)] ++ ([(x.decided.val)] ++ ([(x.replies.val)] ++ ([(x.out.val)] ++ (([] : List Value)))))))) := by simp only [GReplicaReplica.enc, List.nil_append, List.append_assoc, List.append_nil]
  rw [e1, e2]; exact h
theorem fs104_8 (x : GReplicaReplica) (v : Option Addr) (rest : List (Nat × Value)) : Instr.fill (fun i => ([(0, 2), (2, 1), (3, 1), (4, 1), (5, 1), (6, 1), (7, 1), (8, 1), (9, 1), (10, 1), (11, 1), (12, 1), (13, 1)] : List (Nat × Nat))[i]?) x.enc.toArray ((8, (.pointer v)) :: rest) = Instr.fill (fun i => ([(0, 2), (2, 1), (3, 1), (4, 1), (5, 1), (6, 1), (7, 1), (8, 1), (9, 1), (10, 1), (11, 1), (12, 1), (13, 1)] : List (Nat × Nat))[i]?) ({ x with a := v } : GReplicaReplica).enc.toArray rest := by
  have h := fill_seg [(0, 2), (2, 1), (3, 1), (4, 1), (5, 1), (6, 1), (7, 1), (8, 1), (9, 1), (10, 1), (11, 1), (12, 1), (13, 1)] 8 9 1 rfl (([] : List Value) ++ (x.c.enc ++ ([(.int .i64 x.id)] ++ ([(.pointer x.b)] ++ ([(.bool x.started)] ++ ([(.pointer x.s)] ++ ([(.pointer x.t)] ++ ([(.pointer x.l)] ++ ([(.pointer x.v)]))))))))) ([(.pointer x.a)]) ([(.pointer x.e)] ++ ([(x.decided.val)] ++ ([(x.replies.val)] ++ ([(x.out.val)] ++ (([] : List Value)))))) ([(.pointer v)]) (.pointer v) rest (rfl) (by simp [GConf.enc_len]) (by simp [GConf.enc_len]) (by simp [GConf.enc_len])
  have e1 : x.enc = (([] : List Value) ++ (x.c.enc ++ ([(.int .i64 x.id)] ++ ([(.pointer x.b)] ++ ([(.bool x.started)] ++ ([(.pointer x.s)] ++ ([(.pointer x.t)] ++ ([(.pointer x.l)] ++ ([(.pointer x.v)]))))))))) ++ ([(.pointer x.a)] ++ ([(.pointer x.e)] ++ ([(x.decided.val)] ++ ([(x.replies.val)] ++ ([(x.out.val)] ++ (([] : List Value))))))) := by simp only [GReplicaReplica.enc, List.nil_append, List.append_assoc, List.append_nil]
  have e2 : ({ x with a := v } : GReplicaReplica).enc = (([] : List Value) ++ (x.c.enc ++ ([(.int .i64 x.id)] ++ ([(.pointer x.b)] ++ ([(.bool x.started)] ++ ([(.pointer x.s)] ++ ([(.pointer x.t)] ++ ([(.pointer x.l)] ++ ([(.pointer x.v)]))))))))) ++ ([(.pointer v)] ++ ([(.pointer x.e)] ++ ([(x.decided.val)] ++ ([(x.replies.val)] ++ ([(x.out.val)] ++ (([] : List Value))))))) := by simp only [GReplicaReplica.enc, List.nil_append, List.append_assoc, List.append_nil]
  rw [e1, e2]; exact h
@[go_sem ↓ high] theorem xd_GReplicaReplica (ρ : Operand → Value) (dst : Option Tmp) (ps : Array (Nat × Operand)) (ty : TypeId) (pos : String) (after : Array Edge) (guard : Option (Nat × Bool)) : execOp ρ { dst, op := .build 104 ps, type := ty, pos, after, guard } = (do pure (.value (← gBuild 104 (ps.map fun (i, x) => (i, ρ x))))) := ex_build ..
@[go_sem ↓ high] theorem bd104_0 (w : World) (v0 : GConf) (v1 : Int) (v2 : Option Addr) (v4 : Option Addr) (v5 : Option Addr) (v6 : Option Addr) (v7 : Option Addr) (v8 : Option Addr) : (gBuild 104 #[(0, (v0.val)), (1, (.int .i64 v1)), (2, (.pointer v2)), (4, (.pointer v4)), (5, (.pointer v5)), (6, (.pointer v6)), (7, (.pointer v7)), (8, (.pointer v8))]).run Tryz.prog w = .ok (GReplicaReplica.val ⟨v0, v1, v2, false, v4, v5, v6, v7, v8, none, default, default, default⟩) w := by
  rw [GReplicaReplica.val_eq]
  refine run_gBuild_of uu104 zr104 pl104 ?_ w
  show Instr.fill _ (GReplicaReplica.enc default).toArray [(0, (v0.val)), (1, (.int .i64 v1)), (2, (.pointer v2)), (4, (.pointer v4)), (5, (.pointer v5)), (6, (.pointer v6)), (7, (.pointer v7)), (8, (.pointer v8))] = _
  rw [fs104_0, fs104_1, fs104_2, fs104_4, fs104_5, fs104_6, fs104_7, fs104_8]; rfl

/-! ### gavel/replica.epoch -/
structure GReplicaEpoch where
  k : Option Addr
  batches : Option Nat
  precommits : Option Nat
  timers : Hdr
  asks : Bool
  askRound : Int
  askTime : Int
  promises : Hdr
  proposal : Option Addr
  prevote : Option Addr
  precommit : Option Addr
deriving DecidableEq
instance : Inhabited GReplicaEpoch := ⟨⟨none, none, none, default, false, 0, 0, default, none, none, none⟩⟩
def GReplicaEpoch.enc (x : GReplicaEpoch) : List Value := [(.pointer x.k)] ++ ([(.map x.batches)] ++ ([(.map x.precommits)] ++ ([(x.timers.val)] ++ ([(.bool x.asks)] ++ ([(.int .i64 x.askRound)] ++ ([(.int .u64 x.askTime)] ++ ([(x.promises.val)] ++ ([(.pointer x.proposal)] ++ ([(.pointer x.prevote)] ++ ([(.pointer x.precommit)]))))))))))
theorem GReplicaEpoch.enc_len (x : GReplicaEpoch) : x.enc.length = 11 := by simp [GReplicaEpoch.enc]
theorem GReplicaEpoch.enc_one (x : GReplicaEpoch) : ∀ u ∈ x.enc, u.oneCell' = true := by
  intro u hu
  simp only [GReplicaEpoch.enc, List.mem_append, List.mem_singleton] at hu
  rcases hu with hu | hu | hu | hu | hu | hu | hu | hu | hu | hu | hu
  · subst hu; rfl
  · subst hu; rfl
  · subst hu; rfl
  · subst hu; rfl
  · subst hu; rfl
  · subst hu; rfl
  · subst hu; rfl
  · subst hu; rfl
  · subst hu; rfl
  · subst hu; rfl
  · subst hu; rfl
theorem GReplicaEpoch.enc_inj (x y : GReplicaEpoch) (h : x.enc = y.enc) : x = y := by
  obtain ⟨a0, a1, a2, a3, a4, a5, a6, a7, a8, a9, a10⟩ := x
  obtain ⟨b0, b1, b2, b3, b4, b5, b6, b7, b8, b9, b10⟩ := y
  simp only [GReplicaEpoch.enc] at h
  obtain ⟨p0, q0⟩ := List.append_inj h (rfl)
  have e0 : a0 = b0 := by have := List.head_eq_of_cons_eq p0; injection this
  obtain ⟨p1, q1⟩ := List.append_inj q0 (rfl)
  have e1 : a1 = b1 := by have := List.head_eq_of_cons_eq p1; injection this
  obtain ⟨p2, q2⟩ := List.append_inj q1 (rfl)
  have e2 : a2 = b2 := by have := List.head_eq_of_cons_eq p2; injection this
  obtain ⟨p3, q3⟩ := List.append_inj q2 (rfl)
  have e3 : a3 = b3 := Enc.inj (α := Hdr) _ _ p3
  obtain ⟨p4, q4⟩ := List.append_inj q3 (rfl)
  have e4 : a4 = b4 := by have := List.head_eq_of_cons_eq p4; injection this
  obtain ⟨p5, q5⟩ := List.append_inj q4 (rfl)
  have e5 : a5 = b5 := by have := List.head_eq_of_cons_eq p5; injection this
  obtain ⟨p6, q6⟩ := List.append_inj q5 (rfl)
  have e6 : a6 = b6 := by have := List.head_eq_of_cons_eq p6; injection this
  obtain ⟨p7, q7⟩ := List.append_inj q6 (rfl)
  have e7 : a7 = b7 := Enc.inj (α := Hdr) _ _ p7
  obtain ⟨p8, q8⟩ := List.append_inj q7 (rfl)
  have e8 : a8 = b8 := by have := List.head_eq_of_cons_eq p8; injection this
  obtain ⟨p9, q9⟩ := List.append_inj q8 (rfl)
  have e9 : a9 = b9 := by have := List.head_eq_of_cons_eq p9; injection this
  have e10 : a10 = b10 := by have := List.head_eq_of_cons_eq q9; injection this
  rw [e0, e1, e2, e3, e4, e5, e6, e7, e8, e9, e10]
instance : Enc GReplicaEpoch where
  n := 11
  enc := GReplicaEpoch.enc
  pos := by omega
  len := GReplicaEpoch.enc_len
  one := GReplicaEpoch.enc_one
  inj := GReplicaEpoch.enc_inj
@[go_sem] theorem GReplicaEpoch.n_eq : Enc.n GReplicaEpoch = 11 := rfl
@[irreducible] def GReplicaEpoch.val (x : GReplicaEpoch) : Value := .agg x.enc.toArray
theorem GReplicaEpoch.val_eq (x : GReplicaEpoch) : GReplicaEpoch.val x = .agg (Enc.enc x).toArray := by unfold GReplicaEpoch.val; rfl
theorem uu134 : Tryz.prog.underlying 134 = some (.struct (Tryz.prog.fieldsOf 134)) := by kernel_rfl
@[go_sem ↓ high] theorem xb_GReplicaEpoch (ρ : Operand → Value) (dst : Option Tmp) (x : Operand) (ty : TypeId) (pos : String) (after : Array Edge) (guard : Option (Nat × Bool)) : execOp ρ { dst, op := .box 134 x, type := ty, pos, after, guard } = (do pure (.value (← gBox 134 (ρ x)))) := ex_box ..
section
variable (w : World)
@[go_sem ↓ high] theorem bx_GReplicaEpoch (x : GReplicaEpoch) : (gBox 134 (GReplicaEpoch.val x)).run Tryz.prog w = .ok (.pointer (some ⟨w.heap.size, 0, none⟩)) (w.alloc (.cells (GReplicaEpoch.enc x).toArray 134)) := by
  rw [GReplicaEpoch.val_eq]; exact run_gBox _ w
end
theorem lk134_0 (x : GReplicaEpoch) : x.enc[0]? = some (.pointer x.k) := by
  simp [GReplicaEpoch.enc, List.getElem?_append]
theorem lk134_2 (x : GReplicaEpoch) : x.enc[2]? = some (.map x.precommits) := by
  simp [GReplicaEpoch.enc, List.getElem?_append]
theorem lk134_3 (x : GReplicaEpoch) : x.enc[3]? = some (x.timers.val) := by
  simp [GReplicaEpoch.enc, List.getElem?_append]
theorem lk134_4 (x : GReplicaEpoch) : x.enc[4]? = some (.bool x.asks) := by
  simp [GReplicaEpoch.enc, List.getElem?_append]
theorem lk134_5 (x : GReplicaEpoch) : x.enc[5]? = some (.int .i64 x.askRound) := by
  simp [GReplicaEpoch.enc, List.getElem?_append]
theorem lk134_6 (x : GReplicaEpoch) : x.enc[6]? = some (.int .u64 x.askTime) := by
  simp [GReplicaEpoch.enc, List.getElem?_append]
theorem lk134_7 (x : GReplicaEpoch) : x.enc[7]? = some (x.promises.val) := by
  simp [GReplicaEpoch.enc, List.getElem?_append]
theorem lk134_8 (x : GReplicaEpoch) : x.enc[8]? = some (.pointer x.proposal) := by
  simp [GReplicaEpoch.enc, List.getElem?_append]
theorem lk134_9 (x : GReplicaEpoch) : x.enc[9]? = some (.pointer x.prevote) := by
  simp [GReplicaEpoch.enc, List.getElem?_append]
theorem lk134_10 (x : GReplicaEpoch) : x.enc[10]? = some (.pointer x.precommit) := by
  simp [GReplicaEpoch.enc, List.getElem?_append]
theorem zr134 : zeroT Tryz.prog 134 = some (.agg (GReplicaEpoch.enc default).toArray) := by kernel_rfl
theorem GReplicaEpoch.at_k {w : World} {a : Addr} {x : GReplicaEpoch} (h : get? GReplicaEpoch w a = some x) : w.cell? (a.add 0) = some (.pointer x.k) := (get?_iff.1 h) _ _ (lk134_0 x)
theorem GReplicaEpoch.at_precommits {w : World} {a : Addr} {x : GReplicaEpoch} (h : get? GReplicaEpoch w a = some x) : w.cell? (a.add 2) = some (.map x.precommits) := (get?_iff.1 h) _ _ (lk134_2 x)
theorem GReplicaEpoch.at_timers {w : World} {a : Addr} {x : GReplicaEpoch} (h : get? GReplicaEpoch w a = some x) : w.cell? (a.add 3) = some (x.timers.val) := (get?_iff.1 h) _ _ (lk134_3 x)
theorem GReplicaEpoch.at_asks {w : World} {a : Addr} {x : GReplicaEpoch} (h : get? GReplicaEpoch w a = some x) : w.cell? (a.add 4) = some (.bool x.asks) := (get?_iff.1 h) _ _ (lk134_4 x)
theorem GReplicaEpoch.at_askRound {w : World} {a : Addr} {x : GReplicaEpoch} (h : get? GReplicaEpoch w a = some x) : w.cell? (a.add 5) = some (.int .i64 x.askRound) := (get?_iff.1 h) _ _ (lk134_5 x)
theorem GReplicaEpoch.at_askTime {w : World} {a : Addr} {x : GReplicaEpoch} (h : get? GReplicaEpoch w a = some x) : w.cell? (a.add 6) = some (.int .u64 x.askTime) := (get?_iff.1 h) _ _ (lk134_6 x)
theorem GReplicaEpoch.at_promises {w : World} {a : Addr} {x : GReplicaEpoch} (h : get? GReplicaEpoch w a = some x) : w.cell? (a.add 7) = some (x.promises.val) := (get?_iff.1 h) _ _ (lk134_7 x)
theorem GReplicaEpoch.at_proposal {w : World} {a : Addr} {x : GReplicaEpoch} (h : get? GReplicaEpoch w a = some x) : w.cell? (a.add 8) = some (.pointer x.proposal) := (get?_iff.1 h) _ _ (lk134_8 x)
theorem GReplicaEpoch.at_prevote {w : World} {a : Addr} {x : GReplicaEpoch} (h : get? GReplicaEpoch w a = some x) : w.cell? (a.add 9) = some (.pointer x.prevote) := (get?_iff.1 h) _ _ (lk134_9 x)
theorem GReplicaEpoch.at_precommit {w : World} {a : Addr} {x : GReplicaEpoch} (h : get? GReplicaEpoch w a = some x) : w.cell? (a.add 10) = some (.pointer x.precommit) := (get?_iff.1 h) _ _ (lk134_10 x)
theorem pl134 : ((Tryz.prog.fieldsOf 134).toList.mapM fun f => (Tryz.prog.info? f.type).map fun i => (f.offset, i.size)) = some [(0, 1), (1, 1), (2, 1), (3, 1), (4, 1), (5, 1), (6, 1), (7, 1), (8, 1), (9, 1), (10, 1)] := by kernel_rfl
theorem fs134_0 (x : GReplicaEpoch) (v : Option Addr) (rest : List (Nat × Value)) : Instr.fill (fun i => ([(0, 1), (1, 1), (2, 1), (3, 1), (4, 1), (5, 1), (6, 1), (7, 1), (8, 1), (9, 1), (10, 1)] : List (Nat × Nat))[i]?) x.enc.toArray ((0, (.pointer v)) :: rest) = Instr.fill (fun i => ([(0, 1), (1, 1), (2, 1), (3, 1), (4, 1), (5, 1), (6, 1), (7, 1), (8, 1), (9, 1), (10, 1)] : List (Nat × Nat))[i]?) ({ x with k := v } : GReplicaEpoch).enc.toArray rest := by
  have h := fill_seg [(0, 1), (1, 1), (2, 1), (3, 1), (4, 1), (5, 1), (6, 1), (7, 1), (8, 1), (9, 1), (10, 1)] 0 0 1 rfl (([] : List Value)) ([(.pointer x.k)]) ([(.map x.batches)] ++ ([(.map x.precommits)] ++ ([(x.timers.val)] ++ ([(.bool x.asks)] ++ ([(.int .i64 x.askRound)] ++ ([(.int .u64 x.askTime)] ++ ([(x.promises.val)] ++ ([(.pointer x.proposal)] ++ ([(.pointer x.prevote)] ++ ([(.pointer x.precommit)] ++ (([] : List Value)))))))))))) ([(.pointer v)]) (.pointer v) rest (rfl) (by simp) (by simp) (by simp)
  have e1 : x.enc = (([] : List Value)) ++ ([(.pointer x.k)] ++ ([(.map x.batches)] ++ ([(.map x.precommits)] ++ ([(x.timers.val)] ++ ([(.bool x.asks)] ++ ([(.int .i64 x.askRound)] ++ ([(.int .u64 x.askTime)] ++ ([(x.promises.val)] ++ ([(.pointer x.proposal)] ++ ([(.pointer x.prevote)] ++ ([(.pointer x.precommit)] ++ (([] : List Value))))))))))))) := by simp only [GReplicaEpoch.enc, List.nil_append, List.append_assoc, List.append_nil]
  have e2 : ({ x with k := v } : GReplicaEpoch).enc = (([] : List Value)) ++ ([(.pointer v)] ++ ([(.map x.batches)] ++ ([(.map x.precommits)] ++ ([(x.timers.val)] ++ ([(.bool x.asks)] ++ ([(.int .i64 x.askRound)] ++ ([(.int .u64 x.askTime)] ++ ([(x.promises.val)] ++ ([(.pointer x.proposal)] ++ ([(.pointer x.prevote)] ++ ([(.pointer x.precommit)] ++ (([] : List Value))))))))))))) := by simp only [GReplicaEpoch.enc, List.nil_append, List.append_assoc, List.append_nil]
  rw [e1, e2]; exact h
theorem fs134_1 (x : GReplicaEpoch) (v : Option Nat) (rest : List (Nat × Value)) : Instr.fill (fun i => ([(0, 1), (1, 1), (2, 1), (3, 1), (4, 1), (5, 1), (6, 1), (7, 1), (8, 1), (9, 1), (10, 1)] : List (Nat × Nat))[i]?) x.enc.toArray ((1, (.map v)) :: rest) = Instr.fill (fun i => ([(0, 1), (1, 1), (2, 1), (3, 1), (4, 1), (5, 1), (6, 1), (7, 1), (8, 1), (9, 1), (10, 1)] : List (Nat × Nat))[i]?) ({ x with batches := v } : GReplicaEpoch).enc.toArray rest := by
  have h := fill_seg [(0, 1), (1, 1), (2, 1), (3, 1), (4, 1), (5, 1), (6, 1), (7, 1), (8, 1), (9, 1), (10, 1)] 1 1 1 rfl (([] : List Value) ++ ([(.pointer x.k)])) ([(.map x.batches)]) ([(.map x.precommits)] ++ ([(x.timers.val)] ++ ([(.bool x.asks)] ++ ([(.int .i64 x.askRound)] ++ ([(.int .u64 x.askTime)] ++ ([(x.promises.val)] ++ ([(.pointer x.proposal)] ++ ([(.pointer x.prevote)] ++ ([(.pointer x.precommit)] ++ (([] : List Value))))))))))) ([(.map v)]) (.map v) rest (rfl) (by simp) (by simp) (by simp)
  have e1 : x.enc = (([] : List Value) ++ ([(.pointer x.k)])) ++ ([(.map x.batches)] ++ ([(.map x.precommits)] ++ ([(x.timers.val)] ++ ([(.bool x.asks)] ++ ([(.int .i64 x.askRound)] ++ ([(.int .u64 x.askTime)] ++ ([(x.promises.val)] ++ ([(.pointer x.proposal)] ++ ([(.pointer x.prevote)] ++ ([(.pointer x.precommit)] ++ (([] : List Value)))))))))))) := by simp only [GReplicaEpoch.enc, List.nil_append, List.append_assoc, List.append_nil]
  have e2 : ({ x with batches := v } : GReplicaEpoch).enc = (([] : List Value) ++ ([(.pointer x.k)])) ++ ([(.map v)] ++ ([(.map x.precommits)] ++ ([(x.timers.val)] ++ ([(.bool x.asks)] ++ ([(.int .i64 x.askRound)] ++ ([(.int .u64 x.askTime)] ++ ([(x.promises.val)] ++ ([(.pointer x.proposal)] ++ ([(.pointer x.prevote)] ++ ([(.pointer x.precommit)] ++ (([] : List Value)))))))))))) := by simp only [GReplicaEpoch.enc, List.nil_append, List.append_assoc, List.append_nil]
  rw [e1, e2]; exact h
theorem fs134_2 (x : GReplicaEpoch) (v : Option Nat) (rest : List (Nat × Value)) : Instr.fill (fun i => ([(0, 1), (1, 1), (2, 1), (3, 1), (4, 1), (5, 1), (6, 1), (7, 1), (8, 1), (9, 1), (10, 1)] : List (Nat × Nat))[i]?) x.enc.toArray ((2, (.map v)) :: rest) = Instr.fill (fun i => ([(0, 1), (1, 1), (2, 1), (3, 1), (4, 1), (5, 1), (6, 1), (7, 1), (8, 1), (9, 1), (10, 1)] : List (Nat × Nat))[i]?) ({ x with precommits := v } : GReplicaEpoch).enc.toArray rest := by
  have h := fill_seg [(0, 1), (1, 1), (2, 1), (3, 1), (4, 1), (5, 1), (6, 1), (7, 1), (8, 1), (9, 1), (10, 1)] 2 2 1 rfl (([] : List Value) ++ ([(.pointer x.k)] ++ ([(.map x.batches)]))) ([(.map x.precommits)]) ([(x.timers.val)] ++ ([(.bool x.asks)] ++ ([(.int .i64 x.askRound)] ++ ([(.int .u64 x.askTime)] ++ ([(x.promises.val)] ++ ([(.pointer x.proposal)] ++ ([(.pointer x.prevote)] ++ ([(.pointer x.precommit)] ++ (([] : List Value)))))))))) ([(.map v)]) (.map v) rest (rfl) (by simp) (by simp) (by simp)
  have e1 : x.enc = (([] : List Value) ++ ([(.pointer x.k)] ++ ([(.map x.batches)]))) ++ ([(.map x.precommits)] ++ ([(x.timers.val)] ++ ([(.bool x.asks)] ++ ([(.int .i64 x.askRound)] ++ ([(.int .u64 x.askTime)] ++ ([(x.promises.val)] ++ ([(.pointer x.proposal)] ++ ([(.pointer x.prevote)] ++ ([(.pointer x.precommit)] ++ (([] : List Value))))))))))) := by simp only [GReplicaEpoch.enc, List.nil_append, List.append_assoc, List.append_nil]
  have e2 : ({ x with precommits := v } : GReplicaEpoch).enc = (([] : List Value) ++ ([(.pointer x.k)] ++ ([(.map x.batches)]))) ++ ([(.map v)] ++ ([(x.timers.val)] ++ ([(.bool x.asks)] ++ ([(.int .i64 x.askRound)] ++ ([(.int .u64 x.askTime)] ++ ([(x.promises.val)] ++ ([(.pointer x.proposal)] ++ ([(.pointer x.prevote)] ++ ([(.pointer x.precommit)] ++ (([] : List Value))))))))))) := by simp only [GReplicaEpoch.enc, List.nil_append, List.append_assoc, List.append_nil]
  rw [e1, e2]; exact h
@[go_sem ↓ high] theorem xd_GReplicaEpoch (ρ : Operand → Value) (dst : Option Tmp) (ps : Array (Nat × Operand)) (ty : TypeId) (pos : String) (after : Array Edge) (guard : Option (Nat × Bool)) : execOp ρ { dst, op := .build 134 ps, type := ty, pos, after, guard } = (do pure (.value (← gBuild 134 (ps.map fun (i, x) => (i, ρ x))))) := ex_build ..
@[go_sem ↓ high] theorem bd134_0 (w : World) (v0 : Option Addr) (v1 : Option Nat) (v2 : Option Nat) : (gBuild 134 #[(0, (.pointer v0)), (1, (.map v1)), (2, (.map v2))]).run Tryz.prog w = .ok (GReplicaEpoch.val ⟨v0, v1, v2, default, false, 0, 0, default, none, none, none⟩) w := by
  rw [GReplicaEpoch.val_eq]
  refine run_gBuild_of uu134 zr134 pl134 ?_ w
  show Instr.fill _ (GReplicaEpoch.enc default).toArray [(0, (.pointer v0)), (1, (.map v1)), (2, (.map v2))] = _
  rw [fs134_0, fs134_1, fs134_2]; rfl

/-! ### gavel/api.Timer -/
structure GTimer where
  kind : Int
  round : Int
deriving DecidableEq
instance : Inhabited GTimer := ⟨⟨0, 0⟩⟩
def GTimer.enc (x : GTimer) : List Value := [(.int .i64 x.kind)] ++ ([(.int .i64 x.round)])
theorem GTimer.enc_len (x : GTimer) : x.enc.length = 2 := by simp [GTimer.enc]
theorem GTimer.enc_one (x : GTimer) : ∀ u ∈ x.enc, u.oneCell' = true := by
  intro u hu
  simp only [GTimer.enc, List.mem_append, List.mem_singleton] at hu
  rcases hu with hu | hu
  · subst hu; rfl
  · subst hu; rfl
theorem GTimer.enc_inj (x y : GTimer) (h : x.enc = y.enc) : x = y := by
  obtain ⟨a0, a1⟩ := x
  obtain ⟨b0, b1⟩ := y
  simp only [GTimer.enc] at h
  obtain ⟨p0, q0⟩ := List.append_inj h (rfl)
  have e0 : a0 = b0 := by have := List.head_eq_of_cons_eq p0; injection this
  have e1 : a1 = b1 := by have := List.head_eq_of_cons_eq q0; injection this
  rw [e0, e1]
instance : Enc GTimer where
  n := 2
  enc := GTimer.enc
  pos := by omega
  len := GTimer.enc_len
  one := GTimer.enc_one
  inj := GTimer.enc_inj
@[go_sem] theorem GTimer.n_eq : Enc.n GTimer = 2 := rfl
@[irreducible] def GTimer.val (x : GTimer) : Value := .agg x.enc.toArray
theorem GTimer.val_eq (x : GTimer) : GTimer.val x = .agg (Enc.enc x).toArray := by unfold GTimer.val; rfl
theorem uu139 : Tryz.prog.underlying 139 = some (.struct (Tryz.prog.fieldsOf 139)) := by kernel_rfl
@[go_sem ↓ high] theorem xl_GTimer (ρ : Operand → Value) (dst : Option Tmp) (x : Operand) (ty : TypeId) (pos : String) (after : Array Edge) (guard : Option (Nat × Bool)) : execOp ρ { dst, op := .load 139 x, type := ty, pos, after, guard } = (do pure (.value (← gLoad 139 (ρ x)))) := ex_load ..
@[go_sem ↓ high] theorem xs_GTimer (ρ : Operand → Value) (dst : Option Tmp) (x y : Operand) (ty : TypeId) (pos : String) (after : Array Edge) (guard : Option (Nat × Bool)) : execOp ρ { dst, op := .store 139 x y, type := ty, pos, after, guard } = (do gStore 139 (ρ x) (ρ y); pure .skip) := ex_store ..
@[go_sem ↓ high] theorem xb_GTimer (ρ : Operand → Value) (dst : Option Tmp) (x : Operand) (ty : TypeId) (pos : String) (after : Array Edge) (guard : Option (Nat × Bool)) : execOp ρ { dst, op := .box 139 x, type := ty, pos, after, guard } = (do pure (.value (← gBox 139 (ρ x)))) := ex_box ..
@[go_sem ↓ high] theorem xa_GTimer (ρ : Operand → Value) (dst : Option Tmp) (ty : TypeId) (pos : String) (after : Array Edge) (guard : Option (Nat × Bool)) : execOp ρ { dst, op := .alloc 139, type := ty, pos, after, guard } = (do pure (.value (← gAlloc 139))) := ex_alloc ..
theorem ag139 : aggT Tryz.prog 139 = true := by kernel_rfl
theorem sz139 : sizeT Tryz.prog 139 = 2 := by kernel_rfl
section
variable (w : World)
@[go_sem ↓ high] theorem ld_GTimer (a : Addr) : (gLoad 139 (.pointer (some a))).run Tryz.prog w = ofOpt ((get? GTimer w a).map GTimer.val) w (noLoad Tryz.prog 139 a w) := by
  unfold gLoad; exact run_loadAt_opt ag139 sz139 GTimer.val GTimer.val_eq
@[go_sem ↓ high] theorem st_GTimer (a : Addr) (x : GTimer) : (gStore 139 (.pointer (some a)) (GTimer.val x)).run Tryz.prog w = okU' ((get? GTimer w a).isSome && blkFree w a.block) (World.putCells w a (GTimer.enc x)) (noStore Tryz.prog 139 (.pointer (some a)) (GTimer.val x) w) := run_gStore_any sz139 GTimer.val GTimer.val_eq w a x
@[go_sem ↓ high] theorem bx_GTimer (x : GTimer) : (gBox 139 (GTimer.val x)).run Tryz.prog w = .ok (.pointer (some ⟨w.heap.size, 0, none⟩)) (w.alloc (.cells (GTimer.enc x).toArray 139)) := by
  rw [GTimer.val_eq]; exact run_gBox _ w
end
theorem lk139_0 (x : GTimer) : x.enc[0]? = some (.int .i64 x.kind) := by
  simp [GTimer.enc, List.getElem?_append]
theorem lk139_1 (x : GTimer) : x.enc[1]? = some (.int .i64 x.round) := by
  simp [GTimer.enc, List.getElem?_append]
theorem zr139 : zeroT Tryz.prog 139 = some (.agg (GTimer.enc default).toArray) := by kernel_rfl
@[go_sem ↓ high] theorem al_GTimer (w : World) : (gAlloc 139).run Tryz.prog w = .ok (.pointer (some ⟨w.heap.size, 0, none⟩)) (w.alloc (.cells (GTimer.enc default).toArray 139)) := run_zero_alloc zr139 w
@[go_sem] theorem pc_GTimer (w : World) (n : Nat) (x z : GTimer) (hn : n = w.heap.size) : World.putCells (w.alloc (.cells (GTimer.enc z).toArray 139)) ⟨n, 0, none⟩ (GTimer.enc x) = w.alloc (.cells (GTimer.enc x).toArray 139) := putCells_top x z hn
theorem GTimer.at_kind {w : World} {a : Addr} {x : GTimer} (h : get? GTimer w a = some x) : w.cell? (a.add 0) = some (.int .i64 x.kind) := (get?_iff.1 h) _ _ (lk139_0 x)
theorem GTimer.at_round {w : World} {a : Addr} {x : GTimer} (h : get? GTimer w a = some x) : w.cell? (a.add 1) = some (.int .i64 x.round) := (get?_iff.1 h) _ _ (lk139_1 x)
@[go_sem] theorem nw139 (w : World) (n : Nat) (x : GTimer) (hn : n = w.heap.size) : get? GTimer (w.alloc (.cells (GTimer.enc x).toArray 139)) ⟨n, 0, none⟩ = some x := by
  subst hn; exact get?_new 139 x
theorem pl139 : ((Tryz.prog.fieldsOf 139).toList.mapM fun f => (Tryz.prog.info? f.type).map fun i => (f.offset, i.size)) = some [(0, 1), (1, 1)] := by kernel_rfl
theorem fs139_0 (x : GTimer) (v : Int) (rest : List (Nat × Value)) : Instr.fill (fun i => ([(0, 1), (1, 1)] : List (Nat × Nat))[i]?) x.enc.toArray ((0, (.int .i64 v)) :: rest) = Instr.fill (fun i => ([(0, 1), (1, 1)] : List (Nat × Nat))[i]?) ({ x with kind := v } : GTimer).enc.toArray rest := by
  have h := fill_seg [(0, 1), (1, 1)] 0 0 1 rfl (([] : List Value)) ([(.int .i64 x.kind)]) ([(.int .i64 x.round)] ++ (([] : List Value))) ([(.int .i64 v)]) (.int .i64 v) rest (rfl) (by simp) (by simp) (by simp)
  have e1 : x.enc = (([] : List Value)) ++ ([(.int .i64 x.kind)] ++ ([(.int .i64 x.round)] ++ (([] : List Value)))) := by simp only [GTimer.enc, List.nil_append, List.append_assoc, List.append_nil]
  have e2 : ({ x with kind := v } : GTimer).enc = (([] : List Value)) ++ ([(.int .i64 v)] ++ ([(.int .i64 x.round)] ++ (([] : List Value)))) := by simp only [GTimer.enc, List.nil_append, List.append_assoc, List.append_nil]
  rw [e1, e2]; exact h
theorem fs139_1 (x : GTimer) (v : Int) (rest : List (Nat × Value)) : Instr.fill (fun i => ([(0, 1), (1, 1)] : List (Nat × Nat))[i]?) x.enc.toArray ((1, (.int .i64 v)) :: rest) = Instr.fill (fun i => ([(0, 1), (1, 1)] : List (Nat × Nat))[i]?) ({ x with round := v } : GTimer).enc.toArray rest := by
  have h := fill_seg [(0, 1), (1, 1)] 1 1 1 rfl (([] : List Value) ++ ([(.int .i64 x.kind)])) ([(.int .i64 x.round)]) (([] : List Value)) ([(.int .i64 v)]) (.int .i64 v) rest (rfl) (by simp) (by simp) (by simp)
  have e1 : x.enc = (([] : List Value) ++ ([(.int .i64 x.kind)])) ++ ([(.int .i64 x.round)] ++ (([] : List Value))) := by simp only [GTimer.enc, List.nil_append, List.append_assoc, List.append_nil]
  have e2 : ({ x with round := v } : GTimer).enc = (([] : List Value) ++ ([(.int .i64 x.kind)])) ++ ([(.int .i64 v)] ++ (([] : List Value))) := by simp only [GTimer.enc, List.nil_append, List.append_assoc, List.append_nil]
  rw [e1, e2]; exact h
@[go_sem ↓ high] theorem xd_GTimer (ρ : Operand → Value) (dst : Option Tmp) (ps : Array (Nat × Operand)) (ty : TypeId) (pos : String) (after : Array Edge) (guard : Option (Nat × Bool)) : execOp ρ { dst, op := .build 139 ps, type := ty, pos, after, guard } = (do pure (.value (← gBuild 139 (ps.map fun (i, x) => (i, ρ x))))) := ex_build ..
@[go_sem ↓ high] theorem bd139_0 (w : World) (v0 : Int) (v1 : Int) : (gBuild 139 #[(0, (.int .i64 v0)), (1, (.int .i64 v1))]).run Tryz.prog w = .ok (GTimer.val ⟨v0, v1⟩) w := by
  rw [GTimer.val_eq]
  refine run_gBuild_of uu139 zr139 pl139 ?_ w
  show Instr.fill _ (GTimer.enc default).toArray [(0, (.int .i64 v0)), (1, (.int .i64 v1))] = _
  rw [fs139_0, fs139_1]; rfl
/-! ### gavel/replica.timer -/
structure GReplicaTimer where
  due : Int
  t : GTimer
deriving DecidableEq
instance : Inhabited GReplicaTimer := ⟨⟨0, default⟩⟩
def GReplicaTimer.enc (x : GReplicaTimer) : List Value := [(.int .u64 x.due)] ++ (x.t.enc)
theorem GReplicaTimer.enc_len (x : GReplicaTimer) : x.enc.length = 3 := by simp [GReplicaTimer.enc, GTimer.enc_len]
theorem GReplicaTimer.enc_one (x : GReplicaTimer) : ∀ u ∈ x.enc, u.oneCell' = true := by
  intro u hu
  simp only [GReplicaTimer.enc, List.mem_append, List.mem_singleton] at hu
  rcases hu with hu | hu
  · subst hu; rfl
  · exact Enc.one (α := GTimer) _ _ hu
theorem GReplicaTimer.enc_inj (x y : GReplicaTimer) (h : x.enc = y.enc) : x = y := by
  obtain ⟨a0, a1⟩ := x
  obtain ⟨b0, b1⟩ := y
  simp only [GReplicaTimer.enc] at h
  obtain ⟨p0, q0⟩ := List.append_inj h (rfl)
  have e0 : a0 = b0 := by have := List.head_eq_of_cons_eq p0; injection this
  have e1 := Enc.inj (α := GTimer) _ _ q0
  rw [e0, e1]
instance : Enc GReplicaTimer where
  n := 3
  enc := GReplicaTimer.enc
  pos := by omega
  len := GReplicaTimer.enc_len
  one := GReplicaTimer.enc_one
  inj := GReplicaTimer.enc_inj
@[go_sem] theorem GReplicaTimer.n_eq : Enc.n GReplicaTimer = 3 := rfl
@[irreducible] def GReplicaTimer.val (x : GReplicaTimer) : Value := .agg x.enc.toArray
theorem GReplicaTimer.val_eq (x : GReplicaTimer) : GReplicaTimer.val x = .agg (Enc.enc x).toArray := by unfold GReplicaTimer.val; rfl
theorem uu141 : Tryz.prog.underlying 141 = some (.struct (Tryz.prog.fieldsOf 141)) := by kernel_rfl
@[go_sem ↓ high] theorem xl_GReplicaTimer (ρ : Operand → Value) (dst : Option Tmp) (x : Operand) (ty : TypeId) (pos : String) (after : Array Edge) (guard : Option (Nat × Bool)) : execOp ρ { dst, op := .load 141 x, type := ty, pos, after, guard } = (do pure (.value (← gLoad 141 (ρ x)))) := ex_load ..
@[go_sem ↓ high] theorem xb_GReplicaTimer (ρ : Operand → Value) (dst : Option Tmp) (x : Operand) (ty : TypeId) (pos : String) (after : Array Edge) (guard : Option (Nat × Bool)) : execOp ρ { dst, op := .box 141 x, type := ty, pos, after, guard } = (do pure (.value (← gBox 141 (ρ x)))) := ex_box ..
theorem ag141 : aggT Tryz.prog 141 = true := by kernel_rfl
theorem sz141 : sizeT Tryz.prog 141 = 3 := by kernel_rfl
section
variable (w : World)
@[go_sem ↓ high] theorem ld_GReplicaTimer (a : Addr) : (gLoad 141 (.pointer (some a))).run Tryz.prog w = ofOpt ((get? GReplicaTimer w a).map GReplicaTimer.val) w (noLoad Tryz.prog 141 a w) := by
  unfold gLoad; exact run_loadAt_opt ag141 sz141 GReplicaTimer.val GReplicaTimer.val_eq
@[go_sem ↓ high] theorem bx_GReplicaTimer (x : GReplicaTimer) : (gBox 141 (GReplicaTimer.val x)).run Tryz.prog w = .ok (.pointer (some ⟨w.heap.size, 0, none⟩)) (w.alloc (.cells (GReplicaTimer.enc x).toArray 141)) := by
  rw [GReplicaTimer.val_eq]; exact run_gBox _ w
end
theorem lk141_0 (x : GReplicaTimer) : x.enc[0]? = some (.int .u64 x.due) := by
  simp [GReplicaTimer.enc, List.getElem?_append]
theorem ds141_1 (x : GReplicaTimer) : (x.enc.drop 1).take 2 = x.t.enc := by
  unfold GReplicaTimer.enc
  simp [List.drop_append, List.drop_eq_nil_of_le] <;> (exact List.take_of_length_le (by simp [GTimer.enc_len]))
theorem zr141 : zeroT Tryz.prog 141 = some (.agg (GReplicaTimer.enc default).toArray) := by kernel_rfl
theorem GReplicaTimer.at_due {w : World} {a : Addr} {x : GReplicaTimer} (h : get? GReplicaTimer w a = some x) : w.cell? (a.add 0) = some (.int .u64 x.due) := (get?_iff.1 h) _ _ (lk141_0 x)
theorem GReplicaTimer.at_t {w : World} {a : Addr} {x : GReplicaTimer} (h : get? GReplicaTimer w a = some x) : get? GTimer w (a.add 1) = some x.t := by
  rw [get?_iff] at h ⊢
  refine h.sub 1 fun j v hv => ?_
  have hd := ds141_1 x
  have hj : j < 2 := by have := (List.getElem?_eq_some_iff.1 hv).1; rwa [Enc.len] at this
  show x.enc[1 + j]? = some v
  rw [← List.getElem?_drop, ← List.getElem?_take_of_lt hj, hd]; exact hv
@[go_sem] theorem nl141_0 (x : GReplicaTimer) : x.enc[0]? = some (.int .u64 x.due) := by
  have h := (GReplicaTimer.at_due (get?_new (w := (default : World)) 141 x))
  simp only [Addr.add_lit, Nat.zero_add, Nat.reduceAdd, World.cell?_alloc_new, List.getElem?_toArray] at h
  exact h
theorem pl141 : ((Tryz.prog.fieldsOf 141).toList.mapM fun f => (Tryz.prog.info? f.type).map fun i => (f.offset, i.size)) = some [(0, 1), (1, 2)] := by kernel_rfl
theorem fs141_0 (x : GReplicaTimer) (v : Int) (rest : List (Nat × Value)) : Instr.fill (fun i => ([(0, 1), (1, 2)] : List (Nat × Nat))[i]?) x.enc.toArray ((0, (.int .u64 v)) :: rest) = Instr.fill (fun i => ([(0, 1), (1, 2)] : List (Nat × Nat))[i]?) ({ x with due := v } : GReplicaTimer).enc.toArray rest := by
  have h := fill_seg [(0, 1), (1, 2)] 0 0 1 rfl (([] : List Value)) ([(.int .u64 x.due)]) (x.t.enc ++ (([] : List Value))) ([(.int .u64 v)]) (.int .u64 v) rest (rfl) (by simp [GTimer.enc_len]) (by simp [GTimer.enc_len]) (by simp [GTimer.enc_len])
  have e1 : x.enc = (([] : List Value)) ++ ([(.int .u64 x.due)] ++ (x.t.enc ++ (([] : List Value)))) := by simp only [GReplicaTimer.enc, List.nil_append, List.append_assoc, List.append_nil]
  have e2 : ({ x with due := v } : GReplicaTimer).enc = (([] : List Value)) ++ ([(.int .u64 v)] ++ (x.t.enc ++ (([] : List Value)))) := by simp only [GReplicaTimer.enc, List.nil_append, List.append_assoc, List.append_nil]
  rw [e1, e2]; exact h
theorem fs141_1 (x : GReplicaTimer) (v : GTimer) (rest : List (Nat × Value)) : Instr.fill (fun i => ([(0, 1), (1, 2)] : List (Nat × Nat))[i]?) x.enc.toArray ((1, (v.val)) :: rest) = Instr.fill (fun i => ([(0, 1), (1, 2)] : List (Nat × Nat))[i]?) ({ x with t := v } : GReplicaTimer).enc.toArray rest := by
  have h := fill_seg [(0, 1), (1, 2)] 1 1 2 rfl (([] : List Value) ++ ([(.int .u64 x.due)])) (x.t.enc) (([] : List Value)) (v.enc) (v.val) rest (by rw [GTimer.val_eq]; rfl) (by simp [GTimer.enc_len]) (by simp [GTimer.enc_len]) (by simp [GTimer.enc_len])
  have e1 : x.enc = (([] : List Value) ++ ([(.int .u64 x.due)])) ++ (x.t.enc ++ (([] : List Value))) := by simp only [GReplicaTimer.enc, List.nil_append, List.append_assoc, List.append_nil]
  have e2 : ({ x with t := v } : GReplicaTimer).enc = (([] : List Value) ++ ([(.int .u64 x.due)])) ++ (v.enc ++ (([] : List Value))) := by simp only [GReplicaTimer.enc, List.nil_append, List.append_assoc, List.append_nil]
  rw [e1, e2]; exact h
@[go_sem ↓ high] theorem xd_GReplicaTimer (ρ : Operand → Value) (dst : Option Tmp) (ps : Array (Nat × Operand)) (ty : TypeId) (pos : String) (after : Array Edge) (guard : Option (Nat × Bool)) : execOp ρ { dst, op := .build 141 ps, type := ty, pos, after, guard } = (do pure (.value (← gBuild 141 (ps.map fun (i, x) => (i, ρ x))))) := ex_build ..
@[go_sem ↓ high] theorem bd141_0 (w : World) (v0 : Int) (v1 : GTimer) : (gBuild 141 #[(0, (.int .u64 v0)), (1, (v1.val))]).run Tryz.prog w = .ok (GReplicaTimer.val ⟨v0, v1⟩) w := by
  rw [GReplicaTimer.val_eq]
  refine run_gBuild_of uu141 zr141 pl141 ?_ w
  show Instr.fill _ (GReplicaTimer.enc default).toArray [(0, (.int .u64 v0)), (1, (v1.val))] = _
  rw [fs141_0, fs141_1]; rfl
/-! ### gavel/replica.voter -/
structure GReplicaVoter where
  round : Int
  replica : Int
deriving DecidableEq
instance : Inhabited GReplicaVoter := ⟨⟨0, 0⟩⟩
def GReplicaVoter.enc (x : GReplicaVoter) : List Value := [(.int .i64 x.round)] ++ ([(.int .i64 x.replica)])
theorem GReplicaVoter.enc_len (x : GReplicaVoter) : x.enc.length = 2 := by simp [GReplicaVoter.enc]
theorem GReplicaVoter.enc_one (x : GReplicaVoter) : ∀ u ∈ x.enc, u.oneCell' = true := by
  intro u hu
  simp only [GReplicaVoter.enc, List.mem_append, List.mem_singleton] at hu
  rcases hu with hu | hu
  · subst hu; rfl
  · subst hu; rfl
theorem GReplicaVoter.enc_inj (x y : GReplicaVoter) (h : x.enc = y.enc) : x = y := by
  obtain ⟨a0, a1⟩ := x
  obtain ⟨b0, b1⟩ := y
  simp only [GReplicaVoter.enc] at h
  obtain ⟨p0, q0⟩ := List.append_inj h (rfl)
  have e0 : a0 = b0 := by have := List.head_eq_of_cons_eq p0; injection this
  have e1 : a1 = b1 := by have := List.head_eq_of_cons_eq q0; injection this
  rw [e0, e1]
instance : Enc GReplicaVoter where
  n := 2
  enc := GReplicaVoter.enc
  pos := by omega
  len := GReplicaVoter.enc_len
  one := GReplicaVoter.enc_one
  inj := GReplicaVoter.enc_inj
@[go_sem] theorem GReplicaVoter.n_eq : Enc.n GReplicaVoter = 2 := rfl
@[irreducible] def GReplicaVoter.val (x : GReplicaVoter) : Value := .agg x.enc.toArray
theorem GReplicaVoter.val_eq (x : GReplicaVoter) : GReplicaVoter.val x = .agg (Enc.enc x).toArray := by unfold GReplicaVoter.val; rfl
theorem GReplicaVoter.ext_all (x y : GReplicaVoter) : x = y ↔ x.round = y.round ∧ x.replica = y.replica := by
  constructor
  · intro h; cases h; simp
  · intro h; cases x; cases y; simp_all
theorem uu215 : Tryz.prog.underlying 215 = some (.struct (Tryz.prog.fieldsOf 215)) := by kernel_rfl
theorem st215 : Tryz.prog.stoodInHeld 215 = false := by kernel_rfl
theorem fl215 : fieldTO Tryz.prog 215 = [(3, 0), (3, 1)] := by kernel_rfl
theorem nb215 : noBlank Tryz.prog 215 = true := by kernel_rfl
section
variable (w : World)
end
theorem lk215_0 (x : GReplicaVoter) : x.enc[0]? = some (.int .i64 x.round) := by
  simp [GReplicaVoter.enc, List.getElem?_append]
theorem pt215_0 (w : World) (x : GReplicaVoter) : (part 3 x.enc.toArray 0).run Tryz.prog w = .ok (.int .i64 x.round) w := run_part_one na3 us3 (lk215_0 x)
theorem lk215_1 (x : GReplicaVoter) : x.enc[1]? = some (.int .i64 x.replica) := by
  simp [GReplicaVoter.enc, List.getElem?_append]
theorem pt215_1 (w : World) (x : GReplicaVoter) : (part 3 x.enc.toArray 1).run Tryz.prog w = .ok (.int .i64 x.replica) w := run_part_one na3 us3 (lk215_1 x)
theorem zr215 : zeroT Tryz.prog 215 = some (.agg (GReplicaVoter.enc default).toArray) := by kernel_rfl
theorem pl215 : ((Tryz.prog.fieldsOf 215).toList.mapM fun f => (Tryz.prog.info? f.type).map fun i => (f.offset, i.size)) = some [(0, 1), (1, 1)] := by kernel_rfl
theorem fs215_0 (x : GReplicaVoter) (v : Int) (rest : List (Nat × Value)) : Instr.fill (fun i => ([(0, 1), (1, 1)] : List (Nat × Nat))[i]?) x.enc.toArray ((0, (.int .i64 v)) :: rest) = Instr.fill (fun i => ([(0, 1), (1, 1)] : List (Nat × Nat))[i]?) ({ x with round := v } : GReplicaVoter).enc.toArray rest := by
  have h := fill_seg [(0, 1), (1, 1)] 0 0 1 rfl (([] : List Value)) ([(.int .i64 x.round)]) ([(.int .i64 x.replica)] ++ (([] : List Value))) ([(.int .i64 v)]) (.int .i64 v) rest (rfl) (by simp) (by simp) (by simp)
  have e1 : x.enc = (([] : List Value)) ++ ([(.int .i64 x.round)] ++ ([(.int .i64 x.replica)] ++ (([] : List Value)))) := by simp only [GReplicaVoter.enc, List.nil_append, List.append_assoc, List.append_nil]
  have e2 : ({ x with round := v } : GReplicaVoter).enc = (([] : List Value)) ++ ([(.int .i64 v)] ++ ([(.int .i64 x.replica)] ++ (([] : List Value)))) := by simp only [GReplicaVoter.enc, List.nil_append, List.append_assoc, List.append_nil]
  rw [e1, e2]; exact h
theorem fs215_1 (x : GReplicaVoter) (v : Int) (rest : List (Nat × Value)) : Instr.fill (fun i => ([(0, 1), (1, 1)] : List (Nat × Nat))[i]?) x.enc.toArray ((1, (.int .i64 v)) :: rest) = Instr.fill (fun i => ([(0, 1), (1, 1)] : List (Nat × Nat))[i]?) ({ x with replica := v } : GReplicaVoter).enc.toArray rest := by
  have h := fill_seg [(0, 1), (1, 1)] 1 1 1 rfl (([] : List Value) ++ ([(.int .i64 x.round)])) ([(.int .i64 x.replica)]) (([] : List Value)) ([(.int .i64 v)]) (.int .i64 v) rest (rfl) (by simp) (by simp) (by simp)
  have e1 : x.enc = (([] : List Value) ++ ([(.int .i64 x.round)])) ++ ([(.int .i64 x.replica)] ++ (([] : List Value))) := by simp only [GReplicaVoter.enc, List.nil_append, List.append_assoc, List.append_nil]
  have e2 : ({ x with replica := v } : GReplicaVoter).enc = (([] : List Value) ++ ([(.int .i64 x.round)])) ++ ([(.int .i64 v)] ++ (([] : List Value))) := by simp only [GReplicaVoter.enc, List.nil_append, List.append_assoc, List.append_nil]
  rw [e1, e2]; exact h
@[go_sem ↓ high] theorem xd_GReplicaVoter (ρ : Operand → Value) (dst : Option Tmp) (ps : Array (Nat × Operand)) (ty : TypeId) (pos : String) (after : Array Edge) (guard : Option (Nat × Bool)) : execOp ρ { dst, op := .build 215 ps, type := ty, pos, after, guard } = (do pure (.value (← gBuild 215 (ps.map fun (i, x) => (i, ρ x))))) := ex_build ..
@[go_sem ↓ high] theorem bd215_0 (w : World) (v0 : Int) (v1 : Int) : (gBuild 215 #[(0, (.int .i64 v0)), (1, (.int .i64 v1))]).run Tryz.prog w = .ok (GReplicaVoter.val ⟨v0, v1⟩) w := by
  rw [GReplicaVoter.val_eq]
  refine run_gBuild_of uu215 zr215 pl215 ?_ w
  show Instr.fill _ (GReplicaVoter.enc default).toArray [(0, (.int .i64 v0)), (1, (.int .i64 v1))] = _
  rw [fs215_0, fs215_1]; rfl
theorem eq_GReplicaVoter (w : World) (d : Nat) (x y : GReplicaVoter) : (Op.equalIn (d + 2) 215 (GReplicaVoter.val x) (GReplicaVoter.val y)).run Tryz.prog w = .ok (decide (x = y)) w := by
  have q0 : ∀ a b, (Op.equalIn (d + 1) 3 (.int .i64 a) (.int .i64 b)).run Tryz.prog w = .ok (decide (a = b)) w := fun a b => by rw [run_equalIn_int w (d + 0) 3 .i64 .i64 a b uk3]; congr 1
  have q1 : ∀ a b, (Op.equalIn (d + 1) 3 (.int .i64 a) (.int .i64 b)).run Tryz.prog w = .ok (decide (a = b)) w := fun a b => by rw [run_equalIn_int w (d + 0) 3 .i64 .i64 a b uk3]; congr 1
  have h := run_equalIn_fields (d + 1) x.enc.toArray y.enc.toArray w uu215 st215 nb215
  rw [fl215] at h
  unfold GReplicaVoter.val
  refine h.trans ?_
  clear h
  simp only [eqFs, Sem.run_bind, pt215_0, pt215_1, q0, q1, Result.andThen_ok, Sem.run_ite, Sem.run_pure]
  have he : decide (x = y) = (decide (x.round = y.round) && (decide (x.replica = y.replica))) := by
    rw [Bool.eq_iff_iff]; simp only [Bool.and_eq_true, decide_eq_true_eq]; exact GReplicaVoter.ext_all x y
  rw [he]
  generalize decide (x.round = y.round) = c0; generalize decide (x.replica = y.replica) = c1
  cases c0 <;> cases c1 <;> simp
/-! ### []replica.timer -/
theorem ei130 : ElemI Tryz.prog 130 141 GReplicaTimer 24 := ⟨by kernel_rfl, by kernel_rfl⟩
@[go_sem ↓ high] theorem xg_130 (ρ : Operand → Value) (dst : Option Tmp) (ps : Array (Nat × Operand)) (ty : TypeId) (pos : String) (after : Array Edge) (guard : Option (Nat × Bool)) : execOp ρ { dst, op := .buildSlice 130 1 ps, type := ty, pos, after, guard } = (do pure (.value (← gBuildSlice 130 1 (ps.map fun (i, x) => (i, ρ x))))) := ex_buildSlice ..
@[go_sem ↓ high] theorem bs_130 (w : World) (x : GReplicaTimer) : (gBuildSlice 130 1 #[(0, GReplicaTimer.val x)]).run Tryz.prog w = .ok (.slice (some ⟨w.heap.size, 0, none⟩) 1 1) (w.alloc (.cells (GReplicaTimer.enc x).toArray 141)) := by
  rw [GReplicaTimer.val_eq]; exact run_buildSlice_one ei130 (by decide) x w
instance : KEnc GReplicaVoter := ⟨GReplicaVoter.val, fun a b h => by rw [GReplicaVoter.val_eq, GReplicaVoter.val_eq] at h; injection h with h; exact Enc.inj _ _ (by simpa using congrArg Array.toList h)⟩
theorem kl215 : KeyLaws Tryz.prog 215 GReplicaVoter where
  chk := fun e k w => by
    show (Instr.checkKey e 10000 215 (GReplicaVoter.val k)).run Tryz.prog w = _
    rw [GReplicaVoter.val_eq]
    rw [run_checkKey_struct e 9999 _ w uu215 nb215, fl215]
    show (chkFs e 9999 k.enc.toArray _).run Tryz.prog w = _
    simp only [chkFs, Sem.run_bind, pt215_0, pt215_1, Result.andThen_ok, run_checkKey_one e 9998 uk3, Sem.run_pure]
  fnd := fnd_struct (fun k k' w => eq_GReplicaVoter w 9998 k k') uu215 (fun k k' => by show Instr.sameNow _ (GReplicaVoter.val k) (GReplicaVoter.val k') = none; rw [GReplicaVoter.val_eq, GReplicaVoter.val_eq]; rfl)
  same := fun k => by
    show Instr.sameBits 10000 (GReplicaVoter.val k) (GReplicaVoter.val k) = true
    rw [GReplicaVoter.val_eq]
    exact sameBits_cells 9999 _ (Enc.one k) (fun u hu => by
      have hu' : u ∈ k.enc := hu
      unfold GReplicaVoter.enc at hu'
      simp only [List.mem_append, List.mem_singleton] at hu'
      rcases hu' with rfl | rfl <;> exact sameBits_int _ _ _)
instance : VEnc GVote := ⟨GVote.val, fun a b h => by rw [GVote.val_eq, GVote.val_eq] at h; injection h with h; exact Enc.inj _ _ (by simpa using congrArg Array.toList h)⟩

/-! ### map[replica.voter]api.Vote -/
theorem um129 : Tryz.prog.underlying 129 = some (.map 215 58) := by kernel_rfl
theorem zv129_58 : zeroT Tryz.prog 58 = some (VEnc.vv (default : GVote)) := by kernel_rfl
@[go_sem ↓ high] theorem xk_129 (ρ : Operand → Value) (dst : Option Tmp) (x y : Operand) (ok : Bool) (ty : TypeId) (pos : String) (after : Array Edge) (guard : Option (Nat × Bool)) : execOp ρ { dst, op := .lookup 129 x y ok, type := ty, pos, after, guard } = (do pure (.value (← gLookup 129 (ρ x) (ρ y) ok))) := ex_lookup ..
@[go_sem ↓ high] theorem lo_129 (w : World) (r : Nat) (k : GReplicaVoter) : (gLookup 129 (.map (some r)) (GReplicaVoter.val k) true).run Tryz.prog w = ofOpt ((mapAt GReplicaVoter GVote w r).map fun m => .tuple #[(GVote.val ((mget m k).getD default)), .bool (mget m k).isSome]) w (noLookup Tryz.prog 129 (.map (some r)) (GReplicaVoter.val k) true w) :=
  run_gLookup_ok kl215 um129 zv129_58 w r k
end Go.Proofs.YtfhhcgldikmejaaGreatDoor
/- A region that leaves its order of evaluation open: operations that only look may come in any order. Conditions: those named in each theorem. -/
namespace Go.Gv
open Go Go.RowKit

/-! ### A region that draws its order: operations that only look come first, in whatever order; the rest comes in one forced order.
What looks must find the same in every world of a class (the worlds 'W z'); the rest must stay in the class. -/
section
variable {P : Program} {ops : Array Oper} {md : Region.Mode} {Q : Exit → Act → World → Prop} {ι : Type} {W : ι → World}

@[go_sem] def lookUpon (P : Program) (w : World) (v : Value) : Result Next → Prop
  | .ok (.value u) w' => w' = w ∧ u = v
  | .ok .skip w' => w' = w ∧ v = undef
  | .ok (.enter f args) w' => w' = w ∧ Calls P f args w (fun e w'' => e = .returned v ∧ ∃ m, w'' = w.drewN m)
  | _ => False
@[go_sem] def _root_.Go.Oper.looks (P : Program) (o : Oper) (a : Act) (W : ι → World) (next : Act → Prop) : Prop := ∃ v, (∀ z, lookUpon P (W z) v ((execOp a.eval o).run P (W z))) ∧ next (a.put o.dst v)

def YieldsL (P : Program) (ops : Array Oper) (W : ι → World) (o : Oper) (v : Value) (a : Act) : Prop :=
  (Region.wanted o (yielded ops a.tmps) = true ∧ ∀ z, lookUpon P (W z) v ((execOp a.eval o).run P (W z))) ∨ (Region.wanted o (yielded ops a.tmps) = false ∧ v = undef)
/-- Whatever order is picked from here on, after whatever further draws; every world on the way is of the class. -/
def wpE (P : Program) (md : Region.Mode) (ops : Array Oper) (Q : Exit → Act → World → Prop) (W : ι → World) : Nat → Array Bool → Act → World → Prop
  | 0, listed, a, w => Region.ready md ops listed = [] ∧ ∀ n, Q .normal a (w.drewN n)
  | fuel + 1, listed, a, w =>
    (Region.ready md ops listed = [] → ∀ n, Q .normal a (w.drewN n)) ∧
    ∀ i ∈ Region.ready md ops listed, ∀ n, wpOp P ops Q i (fun a' w' => (∃ z, w' = W z) ∧ wpE P md ops Q W fuel (listed.setIfInBounds i true) a' w') a (w.drewN n)
/-- The first part, as it is walked. -/
def wpLooks (P : Program) (ops : Array Oper) (W : ι → World) (K : Act → Prop) : List Oper → Act → Prop
  | [], a => K a
  | o :: rest, a => if Region.wanted o (yielded ops a.tmps) then o.looks P a W (wpLooks P ops W K rest) else wpLooks P ops W K rest (a.put o.dst undef)
/-- The second part, as it is walked. -/
def wpRest (P : Program) (ops : Array Oper) (Q : Exit → Act → World → Prop) (W : ι → World) : List Oper → Act → World → Prop
  | [], a, w => ∀ n, Q .normal a (w.drewN n)
  | o :: rest, a, w => ∀ n, if Region.wanted o (yielded ops a.tmps) then o.wp P a (w.drewN n) (fun a' w' => (∃ z, w' = W z) ∧ wpRest P ops Q W rest a' w') Q else (∃ z, w.drewN n = W z) ∧ wpRest P ops Q W rest (a.put o.dst undef) (w.drewN n)

def seqL (md : Region.Mode) (ops : Array Oper) : List Nat → Array Bool → Bool
  | [], listed => (Region.ready md ops listed).isEmpty
  | t :: tl, listed => decide (Region.ready md ops listed = [t]) && seqL md ops tl (listed.setIfInBounds t true)
def permB (md : Region.Mode) (ops : Array Oper) (tl : List Nat) : List Nat → Array Bool → Bool
  | [], listed => seqL md ops tl listed
  | i :: hd, listed => (Region.ready md ops listed).contains i && Region.free md ops listed i && permB md ops tl hd (listed.setIfInBounds i true)

/-- A class of worlds as a family, with its shape hidden. -/
theorem classFam (C : World → Prop) {w : World} (h : C w) : ∃ (ι : Type) (W : ι → World), Nonempty ι ∧ (∀ z, C (W z)) ∧ ∀ w', C w' → ∃ z, w' = W z :=
  ⟨{w' // C w'}, Subtype.val, ⟨⟨w, h⟩⟩, fun z => z.2, fun w' h => ⟨⟨w', h⟩, rfl⟩⟩
end
end Go.Gv
/- Regions that leave their order open, phase by phase; facts carried from world to world. Conditions: those named in each theorem. -/
namespace Go.Gv
open Go Go.RowKit

section
variable {P : Program} {ops : Array Oper} {md : Region.Mode} {Q : Exit → Act → World → Prop} {ι ι' : Type} {W : ι → World} {W' : ι' → World}

def setAll (listed : Array Bool) : List Nat → Array Bool
  | [] => listed
  | i :: hd => setAll (listed.setIfInBounds i true) hd
def permH (md : Region.Mode) (ops : Array Oper) : List Nat → Array Bool → Bool
  | [], _ => true
  | i :: hd, listed => (Region.ready md ops listed).contains i && Region.free md ops listed i && permH md ops hd (listed.setIfInBounds i true)

/-! Forced operations of the common kinds. -/
section
variable {fuel : Nat} {listed : Array Bool} {a : Act} {w : World} (t : Nat) (o : Oper) (ho : ops[t]? = some o) (hr : (Region.ready md ops listed == [t]) = true) (hg : o.guard = none)
include ho hr hg
end
end

/-! ### Facts carried from one world to the next -/
/-- All that there was in w0 is there in w. -/
def Bel (w0 w : World) : Prop := Below w0.heap.size w0 w
theorem Bel.refl (w : World) : Bel w w := Below.refl _ _
theorem Bel.step {w0 w w' : World} (h : Bel w0 w) (hb : Below w.heap.size w w') : Bel w0 w' := Below.trans h (hb.mono h.size)
theorem Bel.trans {w0 w w' : World} (h : Bel w0 w) (hb : Bel w w') : Bel w0 w' := h.step hb
theorem Bel.alloc {w0 w : World} (h : Bel w0 w) (o : Obj) : Bel w0 (w.alloc o) := Below.alloc h h.size o
theorem Bel.drew {w0 w : World} (h : Bel w0 w) : Bel w0 w.drew := Below.drew h
theorem Bel.size {w0 w : World} (h : Bel w0 w) : w0.heap.size ≤ w.heap.size := Below.size h
theorem Sl.stepB {α : Type} [Enc α] {w w' : World} {A : Option Addr} {n : Nat} {xs : List α} (h : Sl α w w.heap.size A n xs) (hb : Bel w w') : Sl α w' w'.heap.size A n xs := (h.below hb).more hb.size
theorem OwnS.step {α : Type} [Enc α] {w w' : World} {base : Nat} {e : TypeId} {v : Value} {xs : List α} (h : OwnS w base e v xs) (hb : Below w.heap.size w w') : OwnS w' base e v xs := h.below hb (Nat.le_refl _)
end Go.Gv
/- What Within, Prefix, Same and Less compute. Conditions: those named in each theorem. -/
namespace Go.Proofs.YtfhhcgldikmejaaGreatDoor
open Go Go.RowKit Go.Gv

def within (v n : Int) : Int := if n < 1 then 0 else v % n

set_option maxHeartbeats 400000 in
theorem within_any (v n : Int) (w : World) (hn : n ≤ 9223372036854775807) (_hv : -9223372036854775808 ≤ v) (_hv2 : v ≤ 9223372036854775807) :
    Calls Tryz.prog 7 #[.int .i64 v, .int .i64 n] w fun e w' => e = .returned (.int .i64 (within v n)) ∧ w = w' := by
  by_cases h1 : n < 1
  · go_enter Tryz.func7, Tryz.ntmps7
    go_wp2
    go_ret
    exact ⟨ret_int (by unfold within; rw [if_pos h1]), rfl⟩
  · have h2 := tmod_lo (v := v) (n := n) (by omega)
    by_cases h3 : v.tmod n < 0
    · go_enter Tryz.func7, Tryz.ntmps7
      go_wp2
      go_ret
      exact ⟨ret_int (by unfold within; rw [if_neg (by omega)]; exact tmod_neg (by omega) h3), rfl⟩
    · go_enter Tryz.func7, Tryz.ntmps7
      go_wp2
      go_ret
      exact ⟨ret_int (by unfold within; rw [if_neg (by omega)]; exact tmod_pos (by omega) (by omega)), rfl⟩

def prefixB (a b : List GEntry) : Bool := decide (a.take (min a.length b.length) = b.take (min a.length b.length))
/-- Two lists of entries, held against each other place by place. -/
def sameB {α : Type} [DecidableEq α] (a b : List α) : Bool := decide (a = b)
def lessB (a b : GName) : Bool := decide (a.client < b.client) || (decide (a.client = b.client) && decide (a.seq < b.seq))

end Go.Proofs.YtfhhcgldikmejaaGreatDoor
/- What audit.Once computes. Conditions: those named in each theorem. -/
namespace Go.Proofs.YtfhhcgldikmejaaGreatDoor
open Go Go.RowKit Go.Gv

def onceB (xs : List GEntry) : Bool := decide ((xs.map (·.name)).Nodup)

structure OnceInv (xs : List GEntry) (k : Nat) (m : List (GName × Bool)) : Prop where
  look : ∀ n, (mget m n).getD false = decide (n ∈ (xs.take k).map (·.name))
  nd : ((xs.take k).map (·.name)).Nodup
end Go.Proofs.YtfhhcgldikmejaaGreatDoor
/- What the two functions below compute. Conditions: those named in each theorem. -/
namespace Go.Proofs.YtfhhcgldikmejaaGreatDoor
open Go Go.RowKit Go.Gv

/-- All of a below all of b. -/
def allBelow (a b : List U64) : Bool := decide (∀ x ∈ a, ∀ y ∈ b, x.v < y.v)
def belowB (a b : List U64) : Bool := allBelow a b && (decide (0 < a.length) && decide (0 < b.length))
end Go.Proofs.YtfhhcgldikmejaaGreatDoor
/- What cmp.Compare, cmp.Or and lock.Before compute. Conditions: those named in each theorem. -/
namespace Go.Proofs.YtfhhcgldikmejaaGreatDoor
open Go Go.RowKit Go.Gv

def cmpI (a b : Int) : Int := if a < b then -1 else if b < a then 1 else 0
def orI (xs : List Int) : Int := (xs.find? fun x => x != 0).getD 0
def beforeI (a b : GName) : Int := orI [cmpI a.client b.client, cmpI a.seq b.seq]
end Go.Proofs.YtfhhcgldikmejaaGreatDoor
/- What audit.Rising computes. Conditions: those named in each theorem. -/
namespace Go.Proofs.YtfhhcgldikmejaaGreatDoor
open Go Go.RowKit Go.Gv

/-- Does b stand rightly behind a? -/
def riseB (a b : GEntry) : Bool := decide (a.time < b.time) || (decide (b.time = a.time) && decide (beforeI a.name b.name < 0))
def risingB : List GEntry → Bool
  | a :: b :: r => riseB a b && risingB (b :: r)
  | _ => true
end Go.Proofs.YtfhhcgldikmejaaGreatDoor
/- What audit.Fair computes. Conditions: those named in each theorem. -/
namespace Go.Proofs.YtfhhcgldikmejaaGreatDoor
open Go Go.RowKit Go.Gv

/-- A slice of slices of entries reads as a list of lists. -/
def LogsIs (w : World) (B : Nat) (A : Option Addr) (n : Nat) (ls : List (List GEntry)) : Prop :=
  ∃ hs : List Hdr, Sl Hdr w B A n hs ∧ hs.length = ls.length ∧ ∀ (i : Nat) (h : Hdr) (l : List GEntry), hs[i]? = some h → ls[i]? = some l → Sl GEntry w B h.a h.len l ∧ h.len ≤ h.cap ∧ h.cap ≤ maxLen
def fairB (ls : List (List GEntry)) (st : GName → List U64) : Bool :=
  ls.all fun l => (List.range l.length).all fun i => (List.range i).all fun j => !belowB (st (l.getD i default).name) (st (l.getD j default).name)
end Go.Proofs.YtfhhcgldikmejaaGreatDoor
/- What the law of small entries computes. Conditions: those named in each theorem. -/
namespace Go.Proofs.YtfhhcgldikmejaaGreatDoor
open Go Go.RowKit Go.Gv

def smallE (e : GEntry) : GEntry := ⟨⟨within e.name.client 2, within e.name.seq 3⟩, default, e.time.tmod 4⟩
def smallL (xs : List GEntry) : List GEntry := (xs.take 8).map smallE
/-- Entries whose numbers fit. -/
def EntryOk (e : GEntry) : Prop := (-9223372036854775808 ≤ e.name.client ∧ e.name.client ≤ 9223372036854775807) ∧ (-9223372036854775808 ≤ e.name.seq ∧ e.name.seq ≤ 9223372036854775807) ∧ 0 ≤ e.time ∧ e.time ≤ 18446744073709551615

theorem within_is (v n r : Int) (w : World) (hr : within v n = r) (hn : n ≤ 9223372036854775807) (hv : -9223372036854775808 ≤ v) (hv2 : v ≤ 9223372036854775807) :
    Calls Tryz.prog 7 #[.int .i64 v, .int .i64 n] w fun e w' => e = .returned (.int .i64 r) ∧ w' = w := by
  subst hr; exact flipC (within_any v n w hn hv hv2)

end Go.Proofs.YtfhhcgldikmejaaGreatDoor
/- What Copy, Cut, audit.Agree and wakes compute. Conditions: those named in each theorem. -/
namespace Go.Proofs.YtfhhcgldikmejaaGreatDoor
open Go Go.RowKit Go.Gv

/-- Of each two logs one is a beginning of the other one. -/
def agreeB (ls : List (List GEntry)) : Bool := decide (∀ i < ls.length, ∀ j < i, prefixB (ls.getD i []) (ls.getD j []) = true)
end Go.Proofs.YtfhhcgldikmejaaGreatDoor
/- AuditGrows returns true, walked. Conditions: those named in each theorem. -/
namespace Go.Proofs.YtfhhcgldikmejaaGreatDoor
open Go Go.RowKit Go.Gv

/-- Slices of the call's own, by their address. -/
def OwnA {α : Type} [Enc α] (w : World) (base : Nat) (e : TypeId) (A : Option Addr) (c : Nat) (xs : List α) : Prop := OwnS w base e (.slice A xs.length c) xs
section
variable {α : Type} [Enc α] {w w' : World} {base B : Nat} {e t : TypeId} {A : Option Addr} {c : Nat} {xs ys : List α} {P : Program}
theorem OwnS.ownA {v : Value} (h : OwnS w base e v xs) : ∃ A c, v = .slice A xs.length c ∧ OwnA w base e A c xs ∧ xs.length ≤ c ∧ c ≤ maxLen := by
  obtain ⟨A, c, rfl, _, h1, h2, _⟩ := h.shape
  exact ⟨A, c, rfl, h, h1, h2⟩
end

def Logs2 (w : World) (B : Nat) : List Hdr → List (List GEntry) → Prop
  | [], [] => True
  | h :: hs, l :: ls => (Sl GEntry w B h.a h.len l ∧ h.len ≤ h.cap ∧ h.cap ≤ maxLen) ∧ Logs2 w B hs ls
  | _, _ => False
end Go.Proofs.YtfhhcgldikmejaaGreatDoor
/- A map of stamps under construction; AuditTurned returns true, walked. Conditions: those named in each theorem. -/
namespace Go.Proofs.YtfhhcgldikmejaaGreatDoor
open Go Go.RowKit Go.Gv

section
variable {w w' : World} {r : Nat} {ob ob' : Option Nat} {m : List (GName × Hdr)} {st : GName → List U64}
end

/-! ### AuditTurned, plain -/
def entE (i : Nat) (t : Int) : GEntry := ⟨⟨i, 1⟩, default, t⟩
def entL (T : List Int) : List GEntry := T.mapIdx entE
def stOf (T : List Int) (k : GName) : List U64 := if k.seq = 1 ∧ 0 ≤ k.client then (match T[k.client.toNat]? with | some t => [⟨t⟩, ⟨t + 1⟩] | none => []) else []
structure TimesOk (T : List Int) (L : Int) : Prop where
  up : ∀ (i j : Nat) (a b : Int), T[i]? = some a → T[j]? = some b → i < j → a + 1 < b
  le : ∀ t ∈ T, 0 ≤ t ∧ t + 1 ≤ L
  l0 : 0 ≤ L
  l6 : L ≤ 6 * T.length
end Go.Proofs.YtfhhcgldikmejaaGreatDoor
/- A whole element written into a slice of the call's own. Conditions: those named in each theorem. -/
namespace Go.Proofs.YtfhhcgldikmejaaGreatDoor
open Go Go.RowKit Go.Gv

def setSeg : List Value → Nat → List Value → List Value
  | l, _, [] => l
  | l, p, v :: vs => setSeg (l.set p v) (p + 1) vs
theorem setSeg_mid : ∀ (b a pre rest : List Value), a.length = b.length → setSeg (pre ++ (a ++ rest)) pre.length b = pre ++ (b ++ rest)
  | [], a, pre, rest, h => by
    have : a = [] := List.eq_nil_of_length_eq_zero h
    subst this; rfl
  | v :: vs, [], pre, rest, h => by simp at h
  | v :: vs, u :: us, pre, rest, h => by
    unfold setSeg
    rw [List.set_append_right _ _ (Nat.le_refl _), Nat.sub_self, List.cons_append, List.set_cons_zero]
    have := setSeg_mid vs us (pre ++ [v]) rest (by simpa using h)
    simpa using this
end Go.Proofs.YtfhhcgldikmejaaGreatDoor
/- Slices of slices that the call owns. Conditions: those named in each theorem. -/
namespace Go.Proofs.YtfhhcgldikmejaaGreatDoor
open Go Go.RowKit Go.Gv

/-- Headers that read as lists, none of them in block ob. -/
def RowsAt {α : Type} [Enc α] (w : World) (ob : Option Nat) : List Hdr → List (List α) → Prop
  | [], [] => True
  | h :: hs, l :: ls => (Sl α w w.heap.size h.a h.len l ∧ h.len ≤ h.cap ∧ h.cap ≤ maxLen ∧ (0 < h.len → ∀ ad, h.a = some ad → ob ≠ some ad.block)) ∧ RowsAt w ob hs ls
  | _, _ => False
section
variable {α : Type} [Enc α] {w w' : World} {ob ob' : Option Nat}
/-- A slice of slices, all of the call's own. -/
def OwnRows (α : Type) [Enc α] (w : World) (base : Nat) (e : TypeId) (v : Value) (ls : List (List α)) : Prop := ∃ hs : List Hdr, OwnS w base e v hs ∧ RowsAt w v.ownBlock hs ls
variable {base : Nat} {e : TypeId} {v : Value} {ls : List (List α)}
end
end Go.Proofs.YtfhhcgldikmejaaGreatDoor
