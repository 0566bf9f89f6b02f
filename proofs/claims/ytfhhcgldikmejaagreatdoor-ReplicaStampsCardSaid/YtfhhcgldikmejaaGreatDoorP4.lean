/- Regions that leave their order open, where a call may come ahead of what looks behind it. Conditions: those named in each theorem. -/
import Derived.Test.YtfhhcgldikmejaaGreatDoorP3
import Derived.Test.YtfhhcgldikmejaaGreatDoorP1
import Derived.BigRegion
import Derived.Deep.RegionWith
import Derived.Maps.RangeWalk
import Derived.Test.YtfhhcgldikmejaaGreatDoorP2
/- The struct types of this seat as Lean types, with the runs of single operations over them. Conditions: those named in each theorem. -/
namespace Go.Proofs.YtfhhcgldikmejaaGreatDoor
open Go Go.RowKit Go.Gv
set_option linter.unusedSimpArgs false

/-! ### gavel/replica.Event -/
structure GReplicaEvent where
  ticks : Int
  msg : GMsg
deriving DecidableEq
instance : Inhabited GReplicaEvent := ⟨⟨0, default⟩⟩
def GReplicaEvent.enc (x : GReplicaEvent) : List Value := [(.int .i64 x.ticks)] ++ (x.msg.enc)
theorem GReplicaEvent.enc_len (x : GReplicaEvent) : x.enc.length = 296 := by simp [GReplicaEvent.enc, GMsg.enc_len]
theorem GReplicaEvent.enc_one (x : GReplicaEvent) : ∀ u ∈ x.enc, u.oneCell' = true := by
  intro u hu
  simp only [GReplicaEvent.enc, List.mem_append, List.mem_singleton] at hu
  rcases hu with hu | hu
  · subst hu; rfl
  · exact Enc.one (α := GMsg) _ _ hu
theorem GReplicaEvent.enc_inj (x y : GReplicaEvent) (h : x.enc = y.enc) : x = y := by
  obtain ⟨a0, a1⟩ := x
  obtain ⟨b0, b1⟩ := y
  simp only [GReplicaEvent.enc] at h
  obtain ⟨p0, q0⟩ := List.append_inj h (rfl)
  have e0 : a0 = b0 := by have := List.head_eq_of_cons_eq p0; injection this
  have e1 := Enc.inj (α := GMsg) _ _ q0
  rw [e0, e1]
instance : Enc GReplicaEvent where
  n := 296
  enc := GReplicaEvent.enc
  pos := by omega
  len := GReplicaEvent.enc_len
  one := GReplicaEvent.enc_one
  inj := GReplicaEvent.enc_inj
@[go_sem] theorem GReplicaEvent.n_eq : Enc.n GReplicaEvent = 296 := rfl
@[irreducible] def GReplicaEvent.val (x : GReplicaEvent) : Value := .agg x.enc.toArray
theorem GReplicaEvent.val_eq (x : GReplicaEvent) : GReplicaEvent.val x = .agg (Enc.enc x).toArray := by unfold GReplicaEvent.val; rfl
theorem uu72 : Tryz.prog.underlying 72 = some (.struct (Tryz.prog.fieldsOf 72)) := by kernel_rfl
@[go_sem ↓ high] theorem xb_GReplicaEvent (ρ : Operand → Value) (dst : Option Tmp) (x : Operand) (ty : TypeId) (pos : String) (after : Array Edge) (guard : Option (Nat × Bool)) : execOp ρ { dst, op := .box 72 x, type := ty, pos, after, guard } = (do pure (.value (← gBox 72 (ρ x)))) := ex_box ..
section
variable (w : World)
@[go_sem ↓ high] theorem bx_GReplicaEvent (x : GReplicaEvent) : (gBox 72 (GReplicaEvent.val x)).run Tryz.prog w = .ok (.pointer (some ⟨w.heap.size, 0, none⟩)) (w.alloc (.cells (GReplicaEvent.enc x).toArray 72)) := by
  rw [GReplicaEvent.val_eq]; exact run_gBox _ w
end
theorem lk72_0 (x : GReplicaEvent) : x.enc[0]? = some (.int .i64 x.ticks) := by
  simp [GReplicaEvent.enc, List.getElem?_append]
theorem ds72_1 (x : GReplicaEvent) : (x.enc.drop 1).take 295 = x.msg.enc := by
  unfold GReplicaEvent.enc
  simp [List.drop_append, List.drop_eq_nil_of_le] <;> (exact List.take_of_length_le (by simp [GMsg.enc_len]))
theorem zr72 : zeroT Tryz.prog 72 = some (.agg (GReplicaEvent.enc default).toArray) := by kernel_rfl
theorem GReplicaEvent.at_ticks {w : World} {a : Addr} {x : GReplicaEvent} (h : get? GReplicaEvent w a = some x) : w.cell? (a.add 0) = some (.int .i64 x.ticks) := (get?_iff.1 h) _ _ (lk72_0 x)
theorem GReplicaEvent.at_msg {w : World} {a : Addr} {x : GReplicaEvent} (h : get? GReplicaEvent w a = some x) : get? GMsg w (a.add 1) = some x.msg := by
  rw [get?_iff] at h ⊢
  refine h.sub 1 fun j v hv => ?_
  have hd := ds72_1 x
  have hj : j < 295 := by have := (List.getElem?_eq_some_iff.1 hv).1; rwa [Enc.len] at this
  show x.enc[1 + j]? = some v
  rw [← List.getElem?_drop, ← List.getElem?_take_of_lt hj, hd]; exact hv
theorem pl72 : ((Tryz.prog.fieldsOf 72).toList.mapM fun f => (Tryz.prog.info? f.type).map fun i => (f.offset, i.size)) = some [(0, 1), (1, 295)] := by kernel_rfl
theorem fs72_0 (x : GReplicaEvent) (v : Int) (rest : List (Nat × Value)) : Instr.fill (fun i => ([(0, 1), (1, 295)] : List (Nat × Nat))[i]?) x.enc.toArray ((0, (.int .i64 v)) :: rest) = Instr.fill (fun i => ([(0, 1), (1, 295)] : List (Nat × Nat))[i]?) ({ x with ticks := v } : GReplicaEvent).enc.toArray rest := by
  have h := fill_seg [(0, 1), (1, 295)] 0 0 1 rfl (([] : List Value)) ([(.int .i64 x.ticks)]) (x.msg.enc ++ (([] : List Value))) ([(.int .i64 v)]) (.int .i64 v) rest (rfl) (by simp [GMsg.enc_len]) (by simp [GMsg.enc_len]) (by simp [GMsg.enc_len])
  have e1 : x.enc = (([] : List Value)) ++ ([(.int .i64 x.ticks)] ++ (x.msg.enc ++ (([] : List Value)))) := by simp only [GReplicaEvent.enc, List.nil_append, List.append_assoc, List.append_nil]
  have e2 : ({ x with ticks := v } : GReplicaEvent).enc = (([] : List Value)) ++ ([(.int .i64 v)] ++ (x.msg.enc ++ (([] : List Value)))) := by simp only [GReplicaEvent.enc, List.nil_append, List.append_assoc, List.append_nil]
  rw [e1, e2]; exact h
theorem fs72_1 (x : GReplicaEvent) (v : GMsg) (rest : List (Nat × Value)) : Instr.fill (fun i => ([(0, 1), (1, 295)] : List (Nat × Nat))[i]?) x.enc.toArray ((1, (v.val)) :: rest) = Instr.fill (fun i => ([(0, 1), (1, 295)] : List (Nat × Nat))[i]?) ({ x with msg := v } : GReplicaEvent).enc.toArray rest := by
  have h := fill_seg [(0, 1), (1, 295)] 1 1 295 rfl (([] : List Value) ++ ([(.int .i64 x.ticks)])) (x.msg.enc) (([] : List Value)) (v.enc) (v.val) rest (by rw [GMsg.val_eq]; rfl) (by simp [GMsg.enc_len]) (by simp [GMsg.enc_len]) (by simp [GMsg.enc_len])
  have e1 : x.enc = (([] : List Value) ++ ([(.int .i64 x.ticks)])) ++ (x.msg.enc ++ (([] : List Value))) := by simp only [GReplicaEvent.enc, List.nil_append, List.append_assoc, List.append_nil]
  have e2 : ({ x with msg := v } : GReplicaEvent).enc = (([] : List Value) ++ ([(.int .i64 x.ticks)])) ++ (v.enc ++ (([] : List Value))) := by simp only [GReplicaEvent.enc, List.nil_append, List.append_assoc, List.append_nil]
  rw [e1, e2]; exact h
@[go_sem ↓ high] theorem xd_GReplicaEvent (ρ : Operand → Value) (dst : Option Tmp) (ps : Array (Nat × Operand)) (ty : TypeId) (pos : String) (after : Array Edge) (guard : Option (Nat × Bool)) : execOp ρ { dst, op := .build 72 ps, type := ty, pos, after, guard } = (do pure (.value (← gBuild 72 (ps.map fun (i, x) => (i, ρ x))))) := ex_build ..
@[go_sem ↓ high] theorem bd72_0 (w : World) (v0 : Int) : (gBuild 72 #[(0, (.int .i64 v0))]).run Tryz.prog w = .ok (GReplicaEvent.val ⟨v0, default⟩) w := by
  rw [GReplicaEvent.val_eq]
  refine run_gBuild_of uu72 zr72 pl72 ?_ w
  show Instr.fill _ (GReplicaEvent.enc default).toArray [(0, (.int .i64 v0))] = _
  rw [fs72_0]; rfl
@[go_sem ↓ high] theorem bd72_1 (w : World) (v1 : GMsg) : (gBuild 72 #[(1, (v1.val))]).run Tryz.prog w = .ok (GReplicaEvent.val ⟨0, v1⟩) w := by
  rw [GReplicaEvent.val_eq]
  refine run_gBuild_of uu72 zr72 pl72 ?_ w
  show Instr.fill _ (GReplicaEvent.enc default).toArray [(1, (v1.val))] = _
  rw [fs72_1]; rfl

/-! ### gavel/replica.Replica -/
structure GReplicaReplica where
  c : GConf
  id : Int
  b : Option Addr
  started : Bool
  s : Option Addr
  t : Option Addr
  l : Option Addr
  v : Option Addr
  a : Option Addr
  e : Option Addr
  decided : Hdr
  replies : Hdr
  out : Hdr
deriving DecidableEq
instance : Inhabited GReplicaReplica := ⟨⟨default, 0, none, false, none, none, none, none, none, none, default, default, default⟩⟩
def GReplicaReplica.enc (x : GReplicaReplica) : List Value := x.c.enc ++ ([(.int .i64 x.id)] ++ ([(.pointer x.b)] ++ ([(.bool x.started)] ++ ([(.pointer x.s)] ++ ([(.pointer x.t)] ++ ([(.pointer x.l)] ++ ([(.pointer x.v)] ++ ([(.pointer x.a)] ++ ([(.pointer x.e)] ++ ([(x.decided.val)] ++ ([(x.replies.val)] ++ ([(x.out.val)]))))))))))))
theorem GReplicaReplica.enc_len (x : GReplicaReplica) : x.enc.length = 14 := by simp [GReplicaReplica.enc, GConf.enc_len]
theorem GReplicaReplica.enc_one (x : GReplicaReplica) : ∀ u ∈ x.enc, u.oneCell' = true := by
  intro u hu
  simp only [GReplicaReplica.enc, List.mem_append, List.mem_singleton] at hu
  rcases hu with hu | hu | hu | hu | hu | hu | hu | hu | hu | hu | hu | hu | hu
  · exact Enc.one (α := GConf) _ _ hu
  · subst hu; rfl
  · subst hu; rfl
  · subst hu; rfl
  · subst hu; rfl
  · subst hu; rfl
  · subst hu; rfl
  · subst hu; rfl
  · subst hu; rfl
  · subst hu; rfl
  · subst hu; rfl
  · subst hu; rfl
  · subst hu; rfl
theorem GReplicaReplica.enc_inj (x y : GReplicaReplica) (h : x.enc = y.enc) : x = y := by
  obtain ⟨a0, a1, a2, a3, a4, a5, a6, a7, a8, a9, a10, a11, a12⟩ := x
  obtain ⟨b0, b1, b2, b3, b4, b5, b6, b7, b8, b9, b10, b11, b12⟩ := y
  simp only [GReplicaReplica.enc] at h
  obtain ⟨p0, q0⟩ := List.append_inj h (by simp [GConf.enc_len])
  have e0 := Enc.inj (α := GConf) _ _ p0
  obtain ⟨p1, q1⟩ := List.append_inj q0 (rfl)
  have e1 : a1 = b1 := by have := List.head_eq_of_cons_eq p1; injection this
  obtain ⟨p2, q2⟩ := List.append_inj q1 (rfl)
  have e2 : a2 = b2 := by have := List.head_eq_of_cons_eq p2; injection this
  obtain ⟨p3, q3⟩ := List.append_inj q2 (rfl)
  have e3 : a3 = b3 := by have := List.head_eq_of_cons_eq p3; injection this
  obtain ⟨p4, q4⟩ := List.append_inj q3 (rfl)
  have e4 : a4 = b4 := by have := List.head_eq_of_cons_eq p4; injection this
  obtain ⟨p5, q5⟩ := List.append_inj q4 (rfl)
  have e5 : a5 = b5 := by have := List.head_eq_of_cons_eq p5; injection this
  obtain ⟨p6, q6⟩ := List.append_inj q5 (rfl)
  have e6 : a6 = b6 := by have := List.head_eq_of_cons_eq p6; injection this
  obtain ⟨p7, q7⟩ := List.append_inj q6 (rfl)
  have e7 : a7 = b7 := by have := List.head_eq_of_cons_eq p7; injection this
  obtain ⟨p8, q8⟩ := List.append_inj q7 (rfl)
  have e8 : a8 = b8 := by have := List.head_eq_of_cons_eq p8; injection this
  obtain ⟨p9, q9⟩ := List.append_inj q8 (rfl)
  have e9 : a9 = b9 := by have := List.head_eq_of_cons_eq p9; injection this
  obtain ⟨p10, q10⟩ := List.append_inj q9 (rfl)
  have e10 : a10 = b10 := Enc.inj (α := Hdr) _ _ p10
  obtain ⟨p11, q11⟩ := List.append_inj q10 (rfl)
  have e11 : a11 = b11 := Enc.inj (α := Hdr) _ _ p11
  have e12 : a12 = b12 := Enc.inj (α := Hdr) _ _ q11
  rw [e0, e1, e2, e3, e4, e5, e6, e7, e8, e9, e10, e11, e12]
instance : Enc GReplicaReplica where
  n := 14
  enc := GReplicaReplica.enc
  pos := by omega
  len := GReplicaReplica.enc_len
  one := GReplicaReplica.enc_one
  inj := GReplicaReplica.enc_inj
@[go_sem] theorem GReplicaReplica.n_eq : Enc.n GReplicaReplica = 14 := rfl
@[irreducible] def GReplicaReplica.val (x : GReplicaReplica) : Value := .agg x.enc.toArray
theorem GReplicaReplica.val_eq (x : GReplicaReplica) : GReplicaReplica.val x = .agg (Enc.enc x).toArray := by unfold GReplicaReplica.val; rfl
theorem uu104 : Tryz.prog.underlying 104 = some (.struct (Tryz.prog.fieldsOf 104)) := by kernel_rfl
@[go_sem ↓ high] theorem xb_GReplicaReplica (ρ : Operand → Value) (dst : Option Tmp) (x : Operand) (ty : TypeId) (pos : String) (after : Array Edge) (guard : Option (Nat × Bool)) : execOp ρ { dst, op := .box 104 x, type := ty, pos, after, guard } = (do pure (.value (← gBox 104 (ρ x)))) := ex_box ..
section
variable (w : World)
@[go_sem ↓ high] theorem bx_GReplicaReplica (x : GReplicaReplica) : (gBox 104 (GReplicaReplica.val x)).run Tryz.prog w = .ok (.pointer (some ⟨w.heap.size, 0, none⟩)) (w.alloc (.cells (GReplicaReplica.enc x).toArray 104)) := by
  rw [GReplicaReplica.val_eq]; exact run_gBox _ w
end
theorem ds104_0 (x : GReplicaReplica) : (x.enc.drop 0).take 2 = x.c.enc := by
  unfold GReplicaReplica.enc
  simp only [List.drop_zero] <;> (rw [List.take_append_of_le_length (by simp [GConf.enc_len])]; exact List.take_of_length_le (by simp [GConf.enc_len]))
theorem lk104_1 (x : GReplicaReplica) : x.enc[2]? = some (.int .i64 x.id) := by
  simp [GReplicaReplica.enc, List.getElem?_append, GConf.enc_len]
theorem lk104_2 (x : GReplicaReplica) : x.enc[3]? = some (.pointer x.b) := by
  simp [GReplicaReplica.enc, List.getElem?_append, GConf.enc_len]
theorem lk104_3 (x : GReplicaReplica) : x.enc[4]? = some (.bool x.started) := by
  simp [GReplicaReplica.enc, List.getElem?_append, GConf.enc_len]
theorem lk104_4 (x : GReplicaReplica) : x.enc[5]? = some (.pointer x.s) := by
  simp [GReplicaReplica.enc, List.getElem?_append, GConf.enc_len]
theorem lk104_5 (x : GReplicaReplica) : x.enc[6]? = some (.pointer x.t) := by
  simp [GReplicaReplica.enc, List.getElem?_append, GConf.enc_len]
theorem lk104_6 (x : GReplicaReplica) : x.enc[7]? = some (.pointer x.l) := by
  simp [GReplicaReplica.enc, List.getElem?_append, GConf.enc_len]
theorem lk104_7 (x : GReplicaReplica) : x.enc[8]? = some (.pointer x.v) := by
  simp [GReplicaReplica.enc, List.getElem?_append, GConf.enc_len]
theorem lk104_9 (x : GReplicaReplica) : x.enc[10]? = some (.pointer x.e) := by
  simp [GReplicaReplica.enc, List.getElem?_append, GConf.enc_len]
theorem lk104_12 (x : GReplicaReplica) : x.enc[13]? = some (x.out.val) := by
  simp [GReplicaReplica.enc, List.getElem?_append, GConf.enc_len]
theorem zr104 : zeroT Tryz.prog 104 = some (.agg (GReplicaReplica.enc default).toArray) := by kernel_rfl
theorem GReplicaReplica.at_c {w : World} {a : Addr} {x : GReplicaReplica} (h : get? GReplicaReplica w a = some x) : get? GConf w (a.add 0) = some x.c := by
  rw [get?_iff] at h ⊢
  refine h.sub 0 fun j v hv => ?_
  have hd := ds104_0 x
  have hj : j < 2 := by have := (List.getElem?_eq_some_iff.1 hv).1; rwa [Enc.len] at this
  show x.enc[0 + j]? = some v
  rw [← List.getElem?_drop, ← List.getElem?_take_of_lt hj, hd]; exact hv
theorem GReplicaReplica.at_id {w : World} {a : Addr} {x : GReplicaReplica} (h : get? GReplicaReplica w a = some x) : w.cell? (a.add 2) = some (.int .i64 x.id) := (get?_iff.1 h) _ _ (lk104_1 x)
theorem GReplicaReplica.at_b {w : World} {a : Addr} {x : GReplicaReplica} (h : get? GReplicaReplica w a = some x) : w.cell? (a.add 3) = some (.pointer x.b) := (get?_iff.1 h) _ _ (lk104_2 x)
theorem GReplicaReplica.at_started {w : World} {a : Addr} {x : GReplicaReplica} (h : get? GReplicaReplica w a = some x) : w.cell? (a.add 4) = some (.bool x.started) := (get?_iff.1 h) _ _ (lk104_3 x)
theorem GReplicaReplica.at_s {w : World} {a : Addr} {x : GReplicaReplica} (h : get? GReplicaReplica w a = some x) : w.cell? (a.add 5) = some (.pointer x.s) := (get?_iff.1 h) _ _ (lk104_4 x)
theorem GReplicaReplica.at_t {w : World} {a : Addr} {x : GReplicaReplica} (h : get? GReplicaReplica w a = some x) : w.cell? (a.add 6) = some (.pointer x.t) := (get?_iff.1 h) _ _ (lk104_5 x)
theorem GReplicaReplica.at_l {w : World} {a : Addr} {x : GReplicaReplica} (h : get? GReplicaReplica w a = some x) : w.cell? (a.add 7) = some (.pointer x.l) := (get?_iff.1 h) _ _ (lk104_6 x)
theorem GReplicaReplica.at_v {w : World} {a : Addr} {x : GReplicaReplica} (h : get? GReplicaReplica w a = some x) : w.cell? (a.add 8) = some (.pointer x.v) := (get?_iff.1 h) _ _ (lk104_7 x)
theorem GReplicaReplica.at_e {w : World} {a : Addr} {x : GReplicaReplica} (h : get? GReplicaReplica w a = some x) : w.cell? (a.add 10) = some (.pointer x.e) := (get?_iff.1 h) _ _ (lk104_9 x)
theorem GReplicaReplica.at_out {w : World} {a : Addr} {x : GReplicaReplica} (h : get? GReplicaReplica w a = some x) : w.cell? (a.add 13) = some (x.out.val) := (get?_iff.1 h) _ _ (lk104_12 x)
theorem pl104 : ((Tryz.prog.fieldsOf 104).toList.mapM fun f => (Tryz.prog.info? f.type).map fun i => (f.offset, i.size)) = some [(0, 2), (2, 1), (3, 1), (4, 1), (5, 1), (6, 1), (7, 1), (8, 1), (9, 1), (10, 1), (11, 1), (12, 1), (13, 1)] := by kernel_rfl
theorem fs104_0 (x : GReplicaReplica) (v : GConf) (rest : List (Nat × Value)) : Instr.fill (fun i => ([(0, 2), (2, 1), (3, 1), (4, 1), (5, 1), (6, 1), (7, 1), (8, 1), (9, 1), (10, 1), (11, 1), (12, 1), (13, 1)] : List (Nat × Nat))[i]?) x.enc.toArray ((0, (v.val)) :: rest) = Instr.fill (fun i => ([(0, 2), (2, 1), (3, 1), (4, 1), (5, 1), (6, 1), (7, 1), (8, 1), (9, 1), (10, 1), (11, 1), (12, 1), (13, 1)] : List (Nat × Nat))[i]?) ({ x with c := v } : GReplicaReplica).enc.toArray rest := by
  have h := fill_seg [(0, 2), (2, 1), (3, 1), (4, 1), (5, 1), (6, 1), (7, 1), (8, 1), (9, 1), (10, 1), (11, 1), (12, 1), (13, 1)] 0 0 2 rfl (([] : List Value)) (x.c.enc) ([(.int .i64 x.id)] ++ ([(.pointer x.b)] ++ ([(.bool x.started)] ++ ([(.pointer x.s)] ++ ([(.pointer x.t)] ++ ([(.pointer x.l)] ++ ([(.pointer x.v)] ++ ([(.pointer x.a)] ++ ([(.pointer x.e)] ++ ([(x.decided.val)] ++ ([(x.replies.val)] ++ ([(x.out.val)] ++ (([] : List Value)))))))))))))) (v.enc) (v.val) rest (by rw [GConf.val_eq]; rfl) (by simp [GConf.enc_len]) (by simp [GConf.enc_len]) (by simp [GConf.enc_len])
  have e1 : x.enc = (([] : List Value)) ++ (x.c.enc ++ ([(.int .i64 x.id)] ++ ([(.pointer x.b)] ++ ([(.bool x.started)] ++ ([(.pointer x.s)] ++ ([(.pointer x.t)] ++ ([(.pointer x.l)] ++ ([(.pointer x.v)] ++ ([(.pointer x.a)] ++ ([(.pointer x.e)] ++ ([(x.decided.val)] ++ ([(x.replies.val)] ++ ([(x.out.val)] ++ (([] : List Value))))))))))))))) := by simp only [GReplicaReplica.enc, List.nil_append, List.append_assoc, List.append_nil]
  have e2 : ({ x with c := v } : GReplicaReplica).enc = (([] : List Value)) ++ (v.enc ++ ([(.int .i64 x.id)] ++ ([(.pointer x.b)] ++ ([(.bool x.started)] ++ ([(.pointer x.s)] ++ ([(.pointer x.t)] ++ ([(.pointer x.l)] ++ ([(.pointer x.v)] ++ ([(.pointer x.a)] ++ ([(.pointer x.e)] ++ ([(x.decided.val)] ++ ([(x.replies.val)] ++ ([(x.out.val)] ++ (([] : List Value))))))))))))))) := by simp only [GReplicaReplica.enc, List.nil_append, List.append_assoc, List.append_nil]
  rw [e1, e2]; exact h
theorem fs104_1 (x : GReplicaReplica) (v : Int) (rest : List (Nat × Value)) : Instr.fill (fun i => ([(0, 2), (2, 1), (3, 1), (4, 1), (5, 1), (6, 1), (7, 1), (8, 1), (9, 1), (10, 1), (11, 1), (12, 1), (13, 1)] : List (Nat × Nat))[i]?) x.enc.toArray ((1, (.int .i64 v)) :: rest) = Instr.fill (fun i => ([(0, 2), (2, 1), (3, 1), (4, 1), (5, 1), (6, 1), (7, 1), (8, 1), (9, 1), (10, 1), (11, 1), (12, 1), (13, 1)] : List (Nat × Nat))[i]?) ({ x with id := v } : GReplicaReplica).enc.toArray rest := by
  have h := fill_seg [(0, 2), (2, 1), (3, 1), (4, 1), (5, 1), (6, 1), (7, 1), (8, 1), (9, 1), (10, 1), (11, 1), (12, 1), (13, 1)] 1 2 1 rfl (([] : List Value) ++ (x.c.enc)) ([(.int .i64 x.id)]) ([(.pointer x.b)] ++ ([(.bool x.started)] ++ ([(.pointer x.s)] ++ ([(.pointer x.t)] ++ ([(.pointer x.l)] ++ ([(.pointer x.v)] ++ ([(.pointer x.a)] ++ ([(.pointer x.e)] ++ ([(x.decided.val)] ++ ([(x.replies.val)] ++ ([(x.out.val)] ++ (([] : List Value))))))))))))) ([(.int .i64 v)]) (.int .i64 v) rest (rfl) (by simp [GConf.enc_len]) (by simp [GConf.enc_len]) (by simp [GConf.enc_len])
  have e1 : x.enc = (([] : List Value) ++ (x.c.enc)) ++ ([(.int .i64 x.id)] ++ ([(.pointer x.b)] ++ ([(.bool x.started)] ++ ([(.pointer x.s)] ++ ([(.pointer x.t)] ++ ([(.pointer x.l)] ++ ([(.pointer x.v)] ++ ([(.pointer x.a)] ++ ([(.pointer x.e)] ++ ([(x.decided.val)] ++ ([(x.replies.val)] ++ ([(x.out.val)] ++ (([] : List Value)))))))))))))) := by simp only [GReplicaReplica.enc, List.nil_append, List.append_assoc, List.append_nil]
  have e2 : ({ x with id := v } : GReplicaReplica).enc = (([] : List Value) ++ (x.c.enc)) ++ ([(.int .i64 v)] ++ ([(.pointer x.b)] ++ ([(.bool x.started)] ++ ([(.pointer x.s)] ++ ([(.pointer x.t)] ++ ([(.pointer x.l)] ++ ([(.pointer x.v)] ++ ([(.pointer x.a)] ++ ([(.pointer x.e)] ++ ([(x.decided.val)] ++ ([(x.replies.val)] ++ ([(x.out.val)] ++ (([] : List Value)))))))))))))) := by simp only [GReplicaReplica.enc, List.nil_append, List.append_assoc, List.append_nil]
  rw [e1, e2]; exact h
theorem fs104_2 (x : GReplicaReplica) (v : Option Addr) (rest : List (Nat × Value)) : Instr.fill (fun i => ([(0, 2), (2, 1), (3, 1), (4, 1), (5, 1), (6, 1), (7, 1), (8, 1), (9, 1), (10, 1), (11, 1), (12, 1), (13, 1)] : List (Nat × Nat))[i]?) x.enc.toArray ((2, (.pointer v)) :: rest) = Instr.fill (fun i => ([(0, 2), (2, 1), (3, 1), (4, 1), (5, 1), (6, 1), (7, 1), (8, 1), (9, 1), (10, 1), (11, 1), (12, 1), (13, 1)] : List (Nat × Nat))[i]?) ({ x with b := v } : GReplicaReplica).enc.toArray rest := by
  have h := fill_seg [(0, 2), (2, 1), (3, 1), (4, 1), (5, 1), (6, 1), (7, 1), (8, 1), (9, 1), (10, 1), (11, 1), (12, 1), (13, 1)] 2 3 1 rfl (([] : List Value) ++ (x.c.enc ++ ([(.int .i64 x.id)]))) ([(.pointer x.b)]) ([(.bool x.started)] ++ ([(.pointer x.s)] ++ ([(.pointer x.t)] ++ ([(.pointer x.l)] ++ ([(.pointer x.v)] ++ ([(.pointer x.a)] ++ ([(.pointer x.e)] ++ ([(x.decided.val)] ++ ([(x.replies.val)] ++ ([(x.out.val)] ++ (([] : List Value)))))))))))) ([(.pointer v)]) (.pointer v) rest (rfl) (by simp [GConf.enc_len]) (by simp [GConf.enc_len]) (by simp [GConf.enc_len])
  have e1 : x.enc = (([] : List Value) ++ (x.c.enc ++ ([(.int .i64 x.id)]))) ++ ([(.pointer x.b)] ++ ([(.bool x.started)] ++ ([(.pointer x.s)] ++ ([(.pointer x.t)] ++ ([(.pointer x.l)] ++ ([(.pointer x.v)] ++ ([(.pointer x.a)] ++ ([(.pointer x.e)] ++ ([(x.decided.val)] ++ ([(x.replies.val)] ++ ([(x.out.val)] ++ (([] : List Value))))))))))))) := by simp only [GReplicaReplica.enc, List.nil_append, List.append_assoc, List.append_nil]
  have e2 : ({ x with b := v } : GReplicaReplica).enc = (([] : List Value) ++ (x.c.enc ++ ([(.int .i64 x.id)]))) ++ ([(.pointer v)] ++ ([(.bool x.started)] ++ ([(.pointer x.s)] ++ ([(.pointer x.t)] ++ ([(.pointer x.l)] ++ ([(.pointer x.v)] ++ ([(.pointer x.a)] ++ ([(.pointer x.e)] ++ ([(x.decided.val)] ++ ([(x.replies.val)] ++ ([(x.out.val)] ++ (([] : List Value))))))))))))) := by simp only [GReplicaReplica.enc, List.nil_append, List.append_assoc, List.append_nil]
  rw [e1, e2]; exact h
theorem fs104_4 (x : GReplicaReplica) (v : Option Addr) (rest : List (Nat × Value)) : Instr.fill (fun i => ([(0, 2), (2, 1), (3, 1), (4, 1), (5, 1), (6, 1), (7, 1), (8, 1), (9, 1), (10, 1), (11, 1), (12, 1), (13, 1)] : List (Nat × Nat))[i]?) x.enc.toArray ((4, (.pointer v)) :: rest) = Instr.fill (fun i => ([(0, 2), (2, 1), (3, 1), (4, 1), (5, 1), (6, 1), (7, 1), (8, 1), (9, 1), (10, 1), (11, 1), (12, 1), (13, 1)] : List (Nat × Nat))[i]?) ({ x with s := v } : GReplicaReplica).enc.toArray rest := by
  have h := fill_seg [(0, 2), (2, 1), (3, 1), (4, 1), (5, 1), (6, 1), (7, 1), (8, 1), (9, 1), (10, 1), (11, 1), (12, 1), (13, 1)] 4 5 1 rfl (([] : List Value) ++ (x.c.enc ++ ([(.int .i64 x.id)] ++ ([(.pointer x.b)] ++ ([(.bool x.started)]))))) ([(.pointer x.s)]) ([(.pointer x.t)] ++ ([(.pointer x.l)] ++ ([(.pointer x.v)] ++ ([(.pointer x.a)] ++ ([(.pointer x.e)] ++ ([(x.decided.val)] ++ ([(x.replies.val)] ++ ([(x.out.val)] ++ (([] : List Value)))))))))) ([(.pointer v)]) (.pointer v) rest (rfl) (by simp [GConf.enc_len]) (by simp [GConf.enc_len]) (by simp [GConf.enc_len])
  have e1 : x.enc = (([] : List Value) ++ (x.c.enc ++ ([(.int .i64 x.id)] ++ ([(.pointer x.b)] ++ ([(.bool x.started)]))))) ++ ([(.pointer x.s)] ++ ([(.pointer x.t)] ++ ([(.pointer x.l)] ++ ([(.pointer x.v)] ++ ([(.pointer x.a)] ++ ([(.pointer x.e)] ++ ([(x.decided.val)] ++ ([(x.replies.val)] ++ ([(x.out.val)] ++ (([] : List Value))))))))))) := by simp only [GReplicaReplica.enc, List.nil_append, List.append_assoc, List.append_nil]
  have e2 : ({ x with s := v } : GReplicaReplica).enc = (([] : List Value) ++ (x.c.enc ++ ([(.int .i64 x.id)] ++ ([(.pointer x.b)] ++ ([(.bool x.started)]))))) ++ ([(.pointer v)] ++ ([(.pointer x.t)] ++ ([(.pointer x.l)] ++ ([(.pointer x.v)] ++ ([(.pointer x.a)] ++ ([(.pointer x.e)] ++ ([(x.decided.val)] ++ ([(x.replies.val)] ++ ([(x.out.val)] ++ (([] : List Value))))))))))) := by simp only [GReplicaReplica.enc, List.nil_append, List.append_assoc, List.append_nil]
  rw [e1, e2]; exact h
theorem fs104_5 (x : GReplicaReplica) (v : Option Addr) (rest : List (Nat × Value)) : Instr.fill (fun i => ([(0, 2), (2, 1), (3, 1), (4, 1), (5, 1), (6, 1), (7, 1), (8, 1), (9, 1), (10, 1), (11, 1), (12, 1), (13, 1)] : List (Nat × Nat))[i]?) x.enc.toArray ((5, (.pointer v)) :: rest) = Instr.fill (fun i => ([(0, 2), (2, 1), (3, 1), (4, 1), (5, 1), (6, 1), (7, 1), (8, 1), (9, 1), (10, 1), (11, 1), (12, 1), (13, 1)] : List (Nat × Nat))[i]?) ({ x with t := v } : GReplicaReplica).enc.toArray rest := by
  have h := fill_seg [(0, 2), (2, 1), (3, 1), (4, 1), (5, 1), (6, 1), (7, 1), (8, 1), (9, 1), (10, 1), (11, 1), (12, 1), (13, 1)] 5 6 1 rfl (([] : List Value) ++ (x.c.enc ++ ([(.int .i64 x.id)] ++ ([(.pointer x.b)] ++ ([(.bool x.started)] ++ ([(.pointer x.s)])))))) ([(.pointer x.t)]) ([(.pointer x.l)] ++ ([(.pointer x.v)] ++ ([(.pointer x.a)] ++ ([(.pointer x.e)] ++ ([(x.decided.val)] ++ ([(x.replies.val)] ++ ([(x.out.val)] ++ (([] : List Value))))))))) ([(.pointer v)]) (.pointer v) rest (rfl) (by simp [GConf.enc_len]) (by simp [GConf.enc_len]) (by simp [GConf.enc_len])
  have e1 : x.enc = (([] : List Value) ++ (x.c.enc ++ ([(.int .i64 x.id)] ++ ([(.pointer x.b)] ++ ([(.bool x.started)] ++ ([(.pointer x.s)])))))) ++ ([(.pointer x.t)] ++ ([(.pointer x.l)] ++ ([(.pointer x.v)] ++ ([(.pointer x.a)] ++ ([(.pointer x.e)] ++ ([(x.decided.val)] ++ ([(x.replies.val)] ++ ([(x.out.val)] ++ (([] : List Value)))))))))) := by simp only [GReplicaReplica.enc, List.nil_append, List.append_assoc, List.append_nil]
  have e2 : ({ x with t := v } : GReplicaReplica).enc = (([] : List Value) ++ (x.c.enc ++ ([(.int .i64 x.id)] ++ ([(.pointer x.b)] ++ ([(.bool x.started)] ++ ([(.pointer x.s)])))))) ++ ([(.pointer v)] ++ ([(.pointer x.l)] ++ ([(.pointer x.v)] ++ ([(.pointer x.a)] ++ ([(.pointer x.e)] ++ ([(x.decided.val)] ++ ([(x.replies.val)] ++ ([(x.out.val)] ++ (([] : List Value)))))))))) := by simp only [GReplicaReplica.enc, List.nil_append, List.append_assoc, List.append_nil]
  rw [e1, e2]; exact h
theorem fs104_6 (x : GReplicaReplica) (v : Option Addr) (rest : List (Nat × Value)) : Instr.fill (fun i => ([(0, 2), (2, 1), (3, 1), (4, 1), (5, 1), (6, 1), (7, 1), (8, 1), (9, 1), (10, 1), (11, 1), (12, 1), (13, 1)] : List (Nat × Nat))[i]?) x.enc.toArray ((6, (.pointer v)) :: rest) = Instr.fill (fun i => ([(0, 2), (2, 1), (3, 1), (4, 1), (5, 1), (6, 1), (7, 1), (8, 1), (9, 1), (10, 1), (11, 1), (12, 1), (13, 1)] : List (Nat × Nat))[i]?) ({ x with l := v } : GReplicaReplica).enc.toArray rest := by
  have h := fill_seg [(0, 2), (2, 1), (3, 1), (4, 1), (5, 1), (6, 1), (7, 1), (8, 1), (9, 1), (10, 1), (11, 1), (12, 1), (13, 1)] 6 7 1 rfl (([] : List Value) ++ (x.c.enc ++ ([(.int .i64 x.id)] ++ ([(.pointer x.b)] ++ ([(.bool x.started)] ++ ([(.pointer x.s)] ++ ([(.pointer x.t)]))))))) ([(.pointer x.l)]) ([(.pointer x.v)] ++ ([(.pointer x.a)] ++ ([(.pointer x.e)] ++ ([(x.decided.val)] ++ ([(x.replies.val)] ++ ([(x.out.val)] ++ (([] : List Value)))))))) ([(.pointer v)]) (.pointer v) rest (rfl) (by simp [GConf.enc_len]) (by simp [GConf.enc_len]) (by simp [GConf.enc_len])
  have e1 : x.enc = (([] : List Value) ++ (x.c.enc ++ ([(.int .i64 x.id)] ++ ([(.pointer x.b)] ++ ([(.bool x.started)] ++ ([(.pointer x.s)] ++ ([(.pointer x.t)]))))))) ++ ([(.pointer x.l)] ++ ([(.pointer x.v)] ++ ([(.pointer x.a)] ++ ([(.pointer x.e)] ++ ([(x.decided.val)] ++ ([(x.replies.val)] ++ ([(x.out.val)] ++ (([] : List Value))))))))) := by simp only [GReplicaReplica.enc, List.nil_append, List.append_assoc, List.append_nil]
  have e2 : ({ x with l := v } : GReplicaReplica).enc = (([] : List Value) ++ (x.c.enc ++ ([(.int .i64 x.id)] ++ ([(.pointer x.b)] ++ ([(.bool x.started)] ++ ([(.pointer x.s)] ++ ([(.pointer x.t)]))))))) ++ ([(.pointer v)] ++ ([(.pointer x.v)] ++ ([(.pointer x.a)] ++ ([(.pointer x.e)] ++ ([(x.decided.val)] ++ ([(x.replies.val)] ++ ([(x.out.val)] ++ (([] : List Value))))))))) := by simp only [GReplicaReplica.enc, List.nil_append, List.append_assoc, List.append_nil]
  rw [e1, e2]; exact h
theorem fs104_7 (x : GReplicaReplica) (v : Option Addr) (rest : List (Nat × Value)) : Instr.fill (fun i => ([(0, 2), (2, 1), (3, 1), (4, 1), (5, 1), (6, 1), (7, 1), (8, 1), (9, 1), (10, 1), (11, 1), (12, 1), (13, 1)] : List (Nat × Nat))[i]?) x.enc.toArray ((7, (.pointer v)) :: rest) = Instr.fill (fun i => ([(0, 2), (2, 1), (3, 1), (4, 1), (5, 1), (6, 1), (7, 1), (8, 1), (9, 1), (10, 1), (11, 1), (12, 1), (13, 1)] : List (Nat × Nat))[i]?) ({ x with v := v } : GReplicaReplica).enc.toArray rest := by
  have h := fill_seg [(0, 2), (2, 1), (3, 1), (4, 1), (5, 1), (6, 1), (7, 1), (8, 1), (9, 1), (10, 1), (11, 1), (12, 1), (13, 1)] 7 8 1 rfl (([] : List Value) ++ (x.c.enc ++ ([(.int .i64 x.id)] ++ ([(.pointer x.b)] ++ ([(.bool x.started)] ++ ([(.pointer x.s)] ++ ([(.pointer x.t)] ++ ([(.pointer x.l)])))))))) ([(.pointer x.v)]) ([(.pointer x.a)] ++ ([(.pointer x.e)] ++ ([(x.decided.val)] ++ ([(x.replies.val)] ++ ([(x.out.val)] ++ (([] : List Value))))))) ([(.pointer v)]) (.pointer v) rest (rfl) (by simp [GConf.enc_len]) (by simp [GConf.enc_len]) (by simp [GConf.enc_len])
  have e1 : x.enc = (([] : List Value) ++ (x.c.enc ++ ([(.int .i64 x.id)] ++ ([(.pointer x.b)] ++ ([(.bool x.started)] ++ ([(.pointer x.s)] ++ ([(.pointer x.t)] ++ ([(.pointer x.l)])))))))) ++ ([(.pointer x.v)] ++ ([(.pointer x.a)] ++ ([(.pointer x.e)] ++ ([(x.decided.val)] ++ ([(x.replies.val)] ++ ([(x.out.val)] ++ (([] : List Value)))))))) := by simp only [GReplicaReplica.enc, List.nil_append, List.append_assoc, List.append_nil]
  have e2 : ({ x with v := v } : GReplicaReplica).enc = (([] : List Value) ++ (x.c.enc ++ ([(.int .i64 x.id)] ++ ([(.pointer x.b)] ++ ([(.bool x.started)] ++ ([(.pointer x.s)] ++ ([(.pointer x.t)] ++ ([(.pointer x.l)])))))))) ++ ([(.pointer v)] ++ ([(.pointer x.a)] ++ ([(.pointer x.e)] ++ ([(x.decided.val)] ++ ([(x.replies.val)] ++ ([(x.out.val)] ++ (([] : List Value)))))))) := by simp only [GReplicaReplica.enc, List.nil_append, List.append_assoc, List.append_nil]
  rw [e1, e2]; exact h
theorem fs104_8 (x : GReplicaReplica) (v : Option Addr) (rest : List (Nat × Value)) : Instr.fill (fun i => ([(0, 2), (2, 1), (3, 1), (4, 1), (5, 1), (6, 1), (7, 1), (8, 1), (9, 1), (10, 1), (11, 1), (12, 1), (13, 1)] : List (Nat × Nat))[i]?) x.enc.toArray ((8, (.pointer v)) :: rest) = Instr.fill (fun i => ([(0, 2), (2, 1), (3, 1), (4, 1), (5, 1), (6, 1), (7, 1), (8, 1), (9, 1), (10, 1), (11, 1), (12, 1), (13, 1)] : List (Nat × Nat))[i]?) ({ x with a := v } : GReplicaReplica).enc.toArray rest := by
  have h := fill_seg [(0, 2), (2, 1), (3, 1), (4, 1), (5, 1), (6, 1), (7, 1), (8, 1), (9, 1), (10, 1), (11, 1), (12, 1), (13, 1)] 8 9 1 rfl (([] : List Value) ++ (x.c.enc ++ ([(.int .i64 x.id)] ++ ([(.pointer x.b)] ++ ([(.bool x.started)] ++ ([(.pointer x.s)] ++ ([(.pointer x.t)] ++ ([(.pointer x.l)] ++ ([(.pointer x.v)]))))))))) ([(.pointer x.a)]) ([(.pointer x.e)] ++ ([(x.decided.val)] ++ ([(x.replies.val)] ++ ([(x.out.val)] ++ (([] : List Value)))))) ([(.pointer v)]) (.pointer v) rest (rfl) (by simp [GConf.enc_len]) (by simp [GConf.enc_len]) (by simp [GConf.enc_len])
  have e1 : x.enc = (([] : List Value) ++ (x.c.enc ++ ([(.int .i64 x.id)] ++ ([(.pointer x.b)] ++ ([(.bool x.started)] ++ ([(.pointer x.s)] ++ ([(.pointer x.t)] ++ ([(.pointer x.l)] ++ ([(.pointer x.v)]))))))))) ++ ([(.pointer x.a)] ++ ([(.pointer x.e)] ++ ([(x.decided.val)] ++ ([(x.replies.val)] ++ ([(x.out.val)] ++ (([] : List Value))))))) := by simp only [GReplicaReplica.enc, List.nil_append, List.append_assoc, List.append_nil]
  have e2 : ({ x with a := v } : GReplicaReplica).enc = (([] : List Value) ++ (x.c.enc ++ ([(.int .i64 x.id)] ++ ([(.pointer x.b)] ++ ([(.bool x.started)] ++ ([(.pointer x.s)] ++ ([(.pointer x.t)] ++ ([(.pointer x.l)] ++ ([(.pointer x.v)]))))))))) ++ ([(.pointer v)] ++ ([(.pointer x.e)] ++ ([(x.decided.val)] ++ ([(x.replies.val)] ++ ([(x.out.val)] ++ (([] : List Value))))))) := by simp only [GReplicaReplica.enc, List.nil_append, List.append_assoc, List.append_nil]
  rw [e1, e2]; exact h
@[go_sem ↓ high] theorem xd_GReplicaReplica (ρ : Operand → Value) (dst : Option Tmp) (ps : Array (Nat × Operand)) (ty : TypeId) (pos : String) (after : Array Edge) (guard : Option (Nat × Bool)) : execOp ρ { dst, op := .build 104 ps, type := ty, pos, after, guard } = (do pure (.value (← gBuild 104 (ps.map fun (i, x) => (i, ρ x))))) := ex_build ..
@[go_sem ↓ high] theorem bd104_0 (w : World) (v0 : GConf) (v1 : Int) (v2 : Option Addr) (v4 : Option Addr) (v5 : Option Addr) (v6 : Option Addr) (v7 : Option Addr) (v8 : Option Addr) : (gBuild 104 #[(0, (v0.val)), (1, (.int .i64 v1)), (2, (.pointer v2)), (4, (.pointer v4)), (5, (.pointer v5)), (6, (.pointer v6)), (7, (.pointer v7)), (8, (.pointer v8))]).run Tryz.prog w = .ok (GReplicaReplica.val ⟨v0, v1, v2, false, v4, v5, v6, v7, v8, none, default, default, default⟩) w := by
  rw [GReplicaReplica.val_eq]
  refine run_gBuild_of uu104 zr104 pl104 ?_ w
  show Instr.fill _ (GReplicaReplica.enc default).toArray [(0, (v0.val)), (1, (.int .i64 v1)), (2, (.pointer v2)), (4, (.pointer v4)), (5, (.pointer v5)), (6, (.pointer v6)), (7, (.pointer v7)), (8, (.pointer v8))] = _
  rw [fs104_0, fs104_1, fs104_2, fs104_4, fs104_5, fs104_6, fs104_7, fs104_8]; rfl

/-! ### gavel/replica.epoch -/
structure GReplicaEpoch where
  k : Option Addr
  batches : Option Nat
  precommits : Option Nat
  timers : Hdr
  asks : Bool
  askRound : Int
  askTime : Int
  promises : Hdr
  proposal : Option Addr
  prevote : Option Addr
  precommit : Option Addr
deriving DecidableEq
instance : Inhabited GReplicaEpoch := ⟨⟨none, none, none, default, false, 0, 0, default, none, none, none⟩⟩
def GReplicaEpoch.enc (x : GReplicaEpoch) : List Value := [(.pointer x.k)] ++ ([(.map x.batches)] ++ ([(.map x.precommits)] ++ ([(x.timers.val)] ++ ([(.bool x.asks)] ++ ([(.int .i64 x.askRound)] ++ ([(.int .u64 x.askTime)] ++ ([(x.promises.val)] ++ ([(.pointer x.proposal)] ++ ([(.pointer x.prevote)] ++ ([(.pointer x.precommit)]))))))))))
theorem GReplicaEpoch.enc_len (x : GReplicaEpoch) : x.enc.length = 11 := by simp [GReplicaEpoch.enc]
theorem GReplicaEpoch.enc_one (x : GReplicaEpoch) : ∀ u ∈ x.enc, u.oneCell' = true := by
  intro u hu
  simp only [GReplicaEpoch.enc, List.mem_append, List.mem_singleton] at hu
  rcases hu with hu | hu | hu | hu | hu | hu | hu | hu | hu | hu | hu
  · subst hu; rfl
  · subst hu; rfl
  · subst hu; rfl
  · subst hu; rfl
  · subst hu; rfl
  · subst hu; rfl
  · subst hu; rfl
  · subst hu; rfl
  · subst hu; rfl
  · subst hu; rfl
  · subst hu; rfl
theorem GReplicaEpoch.enc_inj (x y : GReplicaEpoch) (h : x.enc = y.enc) : x = y := by
  obtain ⟨a0, a1, a2, a3, a4, a5, a6, a7, a8, a9, a10⟩ := x
  obtain ⟨b0, b1, b2, b3, b4, b5, b6, b7, b8, b9, b10⟩ := y
  simp only [GReplicaEpoch.enc] at h
  obtain ⟨p0, q0⟩ := List.append_inj h (rfl)
  have e0 : a0 = b0 := by have := List.head_eq_of_cons_eq p0; injection this
  obtain ⟨p1, q1⟩ := List.append_inj q0 (rfl)
  have e1 : a1 = b1 := by have := List.head_eq_of_cons_eq p1; injection this
  obtain ⟨p2, q2⟩ := List.append_inj q1 (rfl)
  have e2 : a2 = b2 := by have := List.head_eq_of_cons_eq p2; injection this
  obtain ⟨p3, q3⟩ := List.append_inj q2 (rfl)
  have e3 : a3 = b3 := Enc.inj (α := Hdr) _ _ p3
  obtain ⟨p4, q4⟩ := List.append_inj q3 (rfl)
  have e4 : a4 = b4 := by have := List.head_eq_of_cons_eq p4; injection this
  obtain ⟨p5, q5⟩ := List.append_inj q4 (rfl)
  have e5 : a5 = b5 := by have := List.head_eq_of_cons_eq p5; injection this
  obtain ⟨p6, q6⟩ := List.append_inj q5 (rfl)
  have e6 : a6 = b6 := by have := List.head_eq_of_cons_eq p6; injection this
  obtain ⟨p7, q7⟩ := List.append_inj q6 (rfl)
  have e7 : a7 = b7 := Enc.inj (α := Hdr) _ _ p7
  obtain ⟨p8, q8⟩ := List.append_inj q7 (rfl)
  have e8 : a8 = b8 := by have := List.head_eq_of_cons_eq p8; injection this
  obtain ⟨p9, q9⟩ := List.append_inj q8 (rfl)
  have e9 : a9 = b9 := by have := List.head_eq_of_cons_eq p9; injection this
  have e10 : a10 = b10 := by have := List.head_eq_of_cons_eq q9; injection this
  rw [e0, e1, e2, e3, e4, e5, e6, e7, e8, e9, e10]
instance : Enc GReplicaEpoch where
  n := 11
  enc := GReplicaEpoch.enc
  pos := by omega
  len := GReplicaEpoch.enc_len
  one := GReplicaEpoch.enc_one
  inj := GReplicaEpoch.enc_inj
@[go_sem] theorem GReplicaEpoch.n_eq : Enc.n GReplicaEpoch = 11 := rfl
@[irreducible] def GReplicaEpoch.val (x : GReplicaEpoch) : Value := .agg x.enc.toArray
theorem GReplicaEpoch.val_eq (x : GReplicaEpoch) : GReplicaEpoch.val x = .agg (Enc.enc x).toArray := by unfold GReplicaEpoch.val; rfl
theorem uu134 : Tryz.prog.underlying 134 = some (.struct (Tryz.prog.fieldsOf 134)) := by kernel_rfl
@[go_sem ↓ high] theorem xb_GReplicaEpoch (ρ : Operand → Value) (dst : Option Tmp) (x : Operand) (ty : TypeId) (pos : String) (after : Array Edge) (guard : Option (Nat × Bool)) : execOp ρ { dst, op := .box 134 x, type := ty, pos, after, guard } = (do pure (.value (← gBox 134 (ρ x)))) := ex_box ..
section
variable (w : World)
@[go_sem ↓ high] theorem bx_GReplicaEpoch (x : GReplicaEpoch) : (gBox 134 (GReplicaEpoch.val x)).run Tryz.prog w = .ok (.pointer (some ⟨w.heap.size, 0, none⟩)) (w.alloc (.cells (GReplicaEpoch.enc x).toArray 134)) := by
  rw [GReplicaEpoch.val_eq]; exact run_gBox _ w
end
theorem lk134_0 (x : GReplicaEpoch) : x.enc[0]? = some (.pointer x.k) := by
  simp [GReplicaEpoch.enc, List.getElem?_append]
theorem lk134_3 (x : GReplicaEpoch) : x.enc[3]? = some (x.timers.val) := by
  simp [GReplicaEpoch.enc, List.getElem?_append]
theorem lk134_4 (x : GReplicaEpoch) : x.enc[4]? = some (.bool x.asks) := by
  simp [GReplicaEpoch.enc, List.getElem?_append]
theorem lk134_5 (x : GReplicaEpoch) : x.enc[5]? = some (.int .i64 x.askRound) := by
  simp [GReplicaEpoch.enc, List.getElem?_append]
theorem lk134_6 (x : GReplicaEpoch) : x.enc[6]? = some (.int .u64 x.askTime) := by
  simp [GReplicaEpoch.enc, List.getElem?_append]
theorem lk134_7 (x : GReplicaEpoch) : x.enc[7]? = some (x.promises.val) := by
  simp [GReplicaEpoch.enc, List.getElem?_append]
theorem zr134 : zeroT Tryz.prog 134 = some (.agg (GReplicaEpoch.enc default).toArray) := by kernel_rfl
theorem GReplicaEpoch.at_k {w : World} {a : Addr} {x : GReplicaEpoch} (h : get? GReplicaEpoch w a = some x) : w.cell? (a.add 0) = some (.pointer x.k) := (get?_iff.1 h) _ _ (lk134_0 x)
theorem GReplicaEpoch.at_timers {w : World} {a : Addr} {x : GReplicaEpoch} (h : get? GReplicaEpoch w a = some x) : w.cell? (a.add 3) = some (x.timers.val) := (get?_iff.1 h) _ _ (lk134_3 x)
theorem GReplicaEpoch.at_asks {w : World} {a : Addr} {x : GReplicaEpoch} (h : get? GReplicaEpoch w a = some x) : w.cell? (a.add 4) = some (.bool x.asks) := (get?_iff.1 h) _ _ (lk134_4 x)
theorem GReplicaEpoch.at_askRound {w : World} {a : Addr} {x : GReplicaEpoch} (h : get? GReplicaEpoch w a = some x) : w.cell? (a.add 5) = some (.int .i64 x.askRound) := (get?_iff.1 h) _ _ (lk134_5 x)
theorem GReplicaEpoch.at_askTime {w : World} {a : Addr} {x : GReplicaEpoch} (h : get? GReplicaEpoch w a = some x) : w.cell? (a.add 6) = some (.int .u64 x.askTime) := (get?_iff.1 h) _ _ (lk134_6 x)
theorem GReplicaEpoch.at_promises {w : World} {a : Addr} {x : GReplicaEpoch} (h : get? GReplicaEpoch w a = some x) : w.cell? (a.add 7) = some (x.promises.val) := (get?_iff.1 h) _ _ (lk134_7 x)
theorem pl134 : ((Tryz.prog.fieldsOf 134).toList.mapM fun f => (Tryz.prog.info? f.type).map fun i => (f.offset, i.size)) = some [(0, 1), (1, 1), (2, 1), (3, 1), (4, 1), (5, 1), (6, 1), (7, 1), (8, 1), (9, 1), (10, 1)] := by kernel_rfl
theorem fs134_0 (x : GReplicaEpoch) (v : Option Addr) (rest : List (Nat × Value)) : Instr.fill (fun i => ([(0, 1), (1, 1), (2, 1), (3, 1), (4, 1), (5, 1), (6, 1), (7, 1), (8, 1), (9, 1), (10, 1)] : List (Nat × Nat))[i]?) x.enc.toArray ((0, (.pointer v)) :: rest) = Instr.fill (fun i => ([(0, 1), (1, 1), (2, 1), (3, 1), (4, 1), (5, 1), (6, 1), (7, 1), (8, 1), (9, 1), (10, 1)] : List (Nat × Nat))[i]?) ({ x with k := v } : GReplicaEpoch).enc.toArray rest := by
  have h := fill_seg [(0, 1), (1, 1), (2, 1), (3, 1), (4, 1), (5, 1), (6, 1), (7, 1), (8, 1), (9, 1), (10, 1)] 0 0 1 rfl (([] : List Value)) ([(.pointer x.k)]) ([(.map x.batches)] ++ ([(.map x.precommits)] ++ ([(x.timers.val)] ++ ([(.bool x.asks)] ++ ([(.int .i64 x.askRound)] ++ ([(.int .u64 x.askTime)] ++ ([(x.promises.val)] ++ ([(.pointer x.proposal)] ++ ([(.pointer x.prevote)] ++ ([(.pointer x.precommit)] ++ (([] : List Value)))))))))))) ([(.pointer v)]) (.pointer v) rest (rfl) (by simp) (by simp) (by simp)
  have e1 : x.enc = (([] : List Value)) ++ ([(.pointer x.k)] ++ ([(.map x.batches)] ++ ([(.map x.precommits)] ++ ([(x.timers.val)] ++ ([(.bool x.asks)] ++ ([(.int .i64 x.askRound)] ++ ([(.int .u64 x.askTime)] ++ ([(x.promises.val)] ++ ([(.pointer x.proposal)] ++ ([(.pointer x.prevote)] ++ ([(.pointer x.precommit)] ++ (([] : List Value))))))))))))) := by simp only [GReplicaEpoch.enc, List.nil_append, List.append_assoc, List.append_nil]
  have e2 : ({ x with k := v } : GReplicaEpoch).enc = (([] : List Value)) ++ ([(.pointer v)] ++ ([(.map x.batches)] ++ ([(.map x.precommits)] ++ ([(x.timers.val)] ++ ([(.bool x.asks)] ++ ([(.int .i64 x.askRound)] ++ ([(.int .u64 x.askTime)] ++ ([(x.promises.val)] ++ ([(.pointer x.proposal)] ++ ([(.pointer x.prevote)] ++ ([(.pointer x.precommit)] ++ (([] : List Value))))))))))))) := by simp only [GReplicaEpoch.enc, List.nil_append, List.append_assoc, List.append_nil]
  rw [e1, e2]; exact h
theorem fs134_1 (x : GReplicaEpoch) (v : Option Nat) (rest : List (Nat × Value)) : Instr.fill (fun i => ([(0, 1), (1, 1), (2, 1), (3, 1), (4, 1), (5, 1), (6, 1), (7, 1), (8, 1), (9, 1), (10, 1)] : List (Nat × Nat))[i]?) x.enc.toArray ((1, (.map v)) :: rest) = Instr.fill (fun i => ([(0, 1), (1, 1), (2, 1), (3, 1), (4, 1), (5, 1), (6, 1), (7, 1), (8, 1), (9, 1), (10, 1)] : List (Nat × Nat))[i]?) ({ x with batches := v } : GReplicaEpoch).enc.toArray rest := by
  have h := fill_seg [(0, 1), (1, 1), (2, 1), (3, 1), (4, 1), (5, 1), (6, 1), (7, 1), (8, 1), (9, 1), (10, 1)] 1 1 1 rfl (([] : List Value) ++ ([(.pointer x.k)])) ([(.map x.batches)]) ([(.map x.precommits)] ++ ([(x.timers.val)] ++ ([(.bool x.asks)] ++ ([(.int .i64 x.askRound)] ++ ([(.int .u64 x.askTime)] ++ ([(x.promises.val)] ++ ([(.pointer x.proposal)] ++ ([(.pointer x.prevote)] ++ ([(.pointer x.precommit)] ++ (([] : List Value))))))))))) ([(.map v)]) (.map v) rest (rfl) (by simp) (by simp) (by simp)
  have e1 : x.enc = (([] : List Value) ++ ([(.pointer x.k)])) ++ ([(.map x.batches)] ++ ([(.map x.precommits)] ++ ([(x.timers.val)] ++ ([(.bool x.asks)] ++ ([(.int .i64 x.askRound)] ++ ([(.int .u64 x.askTime)] ++ ([(x.promises.val)] ++ ([(.pointer x.proposal)] ++ ([(.pointer x.prevote)] ++ ([(.pointer x.precommit)] ++ (([] : List Value)))))))))))) := by simp only [GReplicaEpoch.enc, List.nil_append, List.append_assoc, List.append_nil]
  have e2 : ({ x with batches := v } : GReplicaEpoch).enc = (([] : List Value) ++ ([(.pointer x.k)])) ++ ([(.map v)] ++ ([(.map x.precommits)] ++ ([(x.timers.val)] ++ ([(.bool x.asks)] ++ ([(.int .i64 x.askRound)] ++ ([(.int .u64 x.askTime)] ++ ([(x.promises.val)] ++ ([(.pointer x.proposal)] ++ ([(.pointer x.prevote)] ++ ([(.pointer x.precommit)] ++ (([] : List Value)))))))))))) := by simp only [GReplicaEpoch.enc, List.nil_append, List.append_assoc, List.append_nil]
  rw [e1, e2]; exact h
theorem fs134_2 (x : GReplicaEpoch) (v : Option Nat) (rest : List (Nat × Value)) : Instr.fill (fun i => ([(0, 1), (1, 1), (2, 1), (3, 1), (4, 1), (5, 1), (6, 1), (7, 1), (8, 1), (9, 1), (10, 1)] : List (Nat × Nat))[i]?) x.enc.toArray ((2, (.map v)) :: rest) = Instr.fill (fun i => ([(0, 1), (1, 1), (2, 1), (3, 1), (4, 1), (5, 1), (6, 1), (7, 1), (8, 1), (9, 1), (10, 1)] : List (Nat × Nat))[i]?) ({ x with precommits := v } : GReplicaEpoch).enc.toArray rest := by
  have h := fill_seg [(0, 1), (1, 1), (2, 1), (3, 1), (4, 1), (5, 1), (6, 1), (7, 1), (8, 1), (9, 1), (10, 1)] 2 2 1 rfl (([] : List Value) ++ ([(.pointer x.k)] ++ ([(.map x.batches)]))) ([(.map x.precommits)]) ([(x.timers.val)] ++ ([(.bool x.asks)] ++ ([(.int .i64 x.askRound)] ++ ([(.int .u64 x.askTime)] ++ ([(x.promises.val)] ++ ([(.pointer x.proposal)] ++ ([(.pointer x.prevote)] ++ ([(.pointer x.precommit)] ++ (([] : List Value)))))))))) ([(.map v)]) (.map v) rest (rfl) (by simp) (by simp) (by simp)
  have e1 : x.enc = (([] : List Value) ++ ([(.pointer x.k)] ++ ([(.map x.batches)]))) ++ ([(.map x.precommits)] ++ ([(x.timers.val)] ++ ([(.bool x.asks)] ++ ([(.int .i64 x.askRound)] ++ ([(.int .u64 x.askTime)] ++ ([(x.promises.val)] ++ ([(.pointer x.proposal)] ++ ([(.pointer x.prevote)] ++ ([(.pointer x.precommit)] ++ (([] : List Value))))))))))) := by simp only [GReplicaEpoch.enc, List.nil_append, List.append_assoc, List.append_nil]
  have e2 : ({ x with precommits := v } : GReplicaEpoch).enc = (([] : List Value) ++ ([(.pointer x.k)] ++ ([(.map x.batches)]))) ++ ([(.map v)] ++ ([(x.timers.val)] ++ ([(.bool x.asks)] ++ ([(.int .i64 x.askRound)] ++ ([(.int .u64 x.askTime)] ++ ([(x.promises.val)] ++ ([(.pointer x.proposal)] ++ ([(.pointer x.prevote)] ++ ([(.pointer x.precommit)] ++ (([] : List Value))))))))))) := by simp only [GReplicaEpoch.enc, List.nil_append, List.append_assoc, List.append_nil]
  rw [e1, e2]; exact h
@[go_sem ↓ high] theorem xd_GReplicaEpoch (ρ : Operand → Value) (dst : Option Tmp) (ps : Array (Nat × Operand)) (ty : TypeId) (pos : String) (after : Array Edge) (guard : Option (Nat × Bool)) : execOp ρ { dst, op := .build 134 ps, type := ty, pos, after, guard } = (do pure (.value (← gBuild 134 (ps.map fun (i, x) => (i, ρ x))))) := ex_build ..
@[go_sem ↓ high] theorem bd134_0 (w : World) (v0 : Option Addr) (v1 : Option Nat) (v2 : Option Nat) : (gBuild 134 #[(0, (.pointer v0)), (1, (.map v1)), (2, (.map v2))]).run Tryz.prog w = .ok (GReplicaEpoch.val ⟨v0, v1, v2, default, false, 0, 0, default, none, none, none⟩) w := by
  rw [GReplicaEpoch.val_eq]
  refine run_gBuild_of uu134 zr134 pl134 ?_ w
  show Instr.fill _ (GReplicaEpoch.enc default).toArray [(0, (.pointer v0)), (1, (.map v1)), (2, (.map v2))] = _
  rw [fs134_0, fs134_1, fs134_2]; rfl

/-! ### gavel/api.Timer -/
structure GTimer where
  kind : Int
  round : Int
deriving DecidableEq
instance : Inhabited GTimer := ⟨⟨0, 0⟩⟩
def GTimer.enc (x : GTimer) : List Value := [(.int .i64 x.kind)] ++ ([(.int .i64 x.round)])
theorem GTimer.enc_len (x : GTimer) : x.enc.length = 2 := by simp [GTimer.enc]
theorem GTimer.enc_one (x : GTimer) : ∀ u ∈ x.enc, u.oneCell' = true := by
  intro u hu
  simp only [GTimer.enc, List.mem_append, List.mem_singleton] at hu
  rcases hu with hu | hu
  · subst hu; rfl
  · subst hu; rfl
theorem GTimer.enc_inj (x y : GTimer) (h : x.enc = y.enc) : x = y := by
  obtain ⟨a0, a1⟩ := x
  obtain ⟨b0, b1⟩ := y
  simp only [GTimer.enc] at h
  obtain ⟨p0, q0⟩ := List.append_inj h (rfl)
  have e0 : a0 = b0 := by have := List.head_eq_of_cons_eq p0; injection this
  have e1 : a1 = b1 := by have := List.head_eq_of_cons_eq q0; injection this
  rw [e0, e1]
instance : Enc GTimer where
  n := 2
  enc := GTimer.enc
  pos := by omega
  len := GTimer.enc_len
  one := GTimer.enc_one
  inj := GTimer.enc_inj
@[go_sem] theorem GTimer.n_eq : Enc.n GTimer = 2 := rfl
@[irreducible] def GTimer.val (x : GTimer) : Value := .agg x.enc.toArray
theorem GTimer.val_eq (x : GTimer) : GTimer.val x = .agg (Enc.enc x).toArray := by unfold GTimer.val; rfl
theorem uu139 : Tryz.prog.underlying 139 = some (.struct (Tryz.prog.fieldsOf 139)) := by kernel_rfl
section
variable (w : World)
end
theorem zr139 : zeroT Tryz.prog 139 = some (.agg (GTimer.enc default).toArray) := by kernel_rfl
theorem pl139 : ((Tryz.prog.fieldsOf 139).toList.mapM fun f => (Tryz.prog.info? f.type).map fun i => (f.offset, i.size)) = some [(0, 1), (1, 1)] := by kernel_rfl
theorem fs139_0 (x : GTimer) (v : Int) (rest : List (Nat × Value)) : Instr.fill (fun i => ([(0, 1), (1, 1)] : List (Nat × Nat))[i]?) x.enc.toArray ((0, (.int .i64 v)) :: rest) = Instr.fill (fun i => ([(0, 1), (1, 1)] : List (Nat × Nat))[i]?) ({ x with kind := v } : GTimer).enc.toArray rest := by
  have h := fill_seg [(0, 1), (1, 1)] 0 0 1 rfl (([] : List Value)) ([(.int .i64 x.kind)]) ([(.int .i64 x.round)] ++ (([] : List Value))) ([(.int .i64 v)]) (.int .i64 v) rest (rfl) (by simp) (by simp) (by simp)
  have e1 : x.enc = (([] : List Value)) ++ ([(.int .i64 x.kind)] ++ ([(.int .i64 x.round)] ++ (([] : List Value)))) := by simp only [GTimer.enc, List.nil_append, List.append_assoc, List.append_nil]
  have e2 : ({ x with kind := v } : GTimer).enc = (([] : List Value)) ++ ([(.int .i64 v)] ++ ([(.int .i64 x.round)] ++ (([] : List Value)))) := by simp only [GTimer.enc, List.nil_append, List.append_assoc, List.append_nil]
  rw [e1, e2]; exact h
theorem fs139_1 (x : GTimer) (v : Int) (rest : List (Nat × Value)) : Instr.fill (fun i => ([(0, 1), (1, 1)] : List (Nat × Nat))[i]?) x.enc.toArray ((1, (.int .i64 v)) :: rest) = Instr.fill (fun i => ([(0, 1), (1, 1)] : List (Nat × Nat))[i]?) ({ x with round := v } : GTimer).enc.toArray rest := by
  have h := fill_seg [(0, 1), (1, 1)] 1 1 1 rfl (([] : List Value) ++ ([(.int .i64 x.kind)])) ([(.int .i64 x.round)]) (([] : List Value)) ([(.int .i64 v)]) (.int .i64 v) rest (rfl) (by simp) (by simp) (by simp)
  have e1 : x.enc = (([] : List Value) ++ ([(.int .i64 x.kind)])) ++ ([(.int .i64 x.round)] ++ (([] : List Value))) := by simp only [GTimer.enc, List.nil_append, List.append_assoc, List.append_nil]
  have e2 : ({ x with round := v } : GTimer).enc = (([] : List Value) ++ ([(.int .i64 x.kind)])) ++ ([(.int .i64 v)] ++ (([] : List Value))) := by simp only [GTimer.enc, List.nil_append, List.append_assoc, List.append_nil]
  rw [e1, e2]; exact h
@[go_sem ↓ high] theorem xd_GTimer (ρ : Operand → Value) (dst : Option Tmp) (ps : Array (Nat × Operand)) (ty : TypeId) (pos : String) (after : Array Edge) (guard : Option (Nat × Bool)) : execOp ρ { dst, op := .build 139 ps, type := ty, pos, after, guard } = (do pure (.value (← gBuild 139 (ps.map fun (i, x) => (i, ρ x))))) := ex_build ..
@[go_sem ↓ high] theorem bd139_0 (w : World) (v0 : Int) (v1 : Int) : (gBuild 139 #[(0, (.int .i64 v0)), (1, (.int .i64 v1))]).run Tryz.prog w = .ok (GTimer.val ⟨v0, v1⟩) w := by
  rw [GTimer.val_eq]
  refine run_gBuild_of uu139 zr139 pl139 ?_ w
  show Instr.fill _ (GTimer.enc default).toArray [(0, (.int .i64 v0)), (1, (.int .i64 v1))] = _
  rw [fs139_0, fs139_1]; rfl
/-! ### gavel/replica.timer -/
structure GReplicaTimer where
  due : Int
  t : GTimer
deriving DecidableEq
instance : Inhabited GReplicaTimer := ⟨⟨0, default⟩⟩
def GReplicaTimer.enc (x : GReplicaTimer) : List Value := [(.int .u64 x.due)] ++ (x.t.enc)
theorem GReplicaTimer.enc_len (x : GReplicaTimer) : x.enc.length = 3 := by simp [GReplicaTimer.enc, GTimer.enc_len]
theorem GReplicaTimer.enc_one (x : GReplicaTimer) : ∀ u ∈ x.enc, u.oneCell' = true := by
  intro u hu
  simp only [GReplicaTimer.enc, List.mem_append, List.mem_singleton] at hu
  rcases hu with hu | hu
  · subst hu; rfl
  · exact Enc.one (α := GTimer) _ _ hu
theorem GReplicaTimer.enc_inj (x y : GReplicaTimer) (h : x.enc = y.enc) : x = y := by
  obtain ⟨a0, a1⟩ := x
  obtain ⟨b0, b1⟩ := y
  simp only [GReplicaTimer.enc] at h
  obtain ⟨p0, q0⟩ := List.append_inj h (rfl)
  have e0 : a0 = b0 := by have := List.head_eq_of_cons_eq p0; injection this
  have e1 := Enc.inj (α := GTimer) _ _ q0
  rw [e0, e1]
instance : Enc GReplicaTimer where
  n := 3
  enc := GReplicaTimer.enc
  pos := by omega
  len := GReplicaTimer.enc_len
  one := GReplicaTimer.enc_one
  inj := GReplicaTimer.enc_inj
@[go_sem] theorem GReplicaTimer.n_eq : Enc.n GReplicaTimer = 3 := rfl
@[irreducible] def GReplicaTimer.val (x : GReplicaTimer) : Value := .agg x.enc.toArray
theorem GReplicaTimer.val_eq (x : GReplicaTimer) : GReplicaTimer.val x = .agg (Enc.enc x).toArray := by unfold GReplicaTimer.val; rfl
theorem uu141 : Tryz.prog.underlying 141 = some (.struct (Tryz.prog.fieldsOf 141)) := by kernel_rfl
@[go_sem ↓ high] theorem xl_GReplicaTimer (ρ : Operand → Value) (dst : Option Tmp) (x : Operand) (ty : TypeId) (pos : String) (after : Array Edge) (guard : Option (Nat × Bool)) : execOp ρ { dst, op := .load 141 x, type := ty, pos, after, guard } = (do pure (.value (← gLoad 141 (ρ x)))) := ex_load ..
@[go_sem ↓ high] theorem xb_GReplicaTimer (ρ : Operand → Value) (dst : Option Tmp) (x : Operand) (ty : TypeId) (pos : String) (after : Array Edge) (guard : Option (Nat × Bool)) : execOp ρ { dst, op := .box 141 x, type := ty, pos, after, guard } = (do pure (.value (← gBox 141 (ρ x)))) := ex_box ..
theorem ag141 : aggT Tryz.prog 141 = true := by kernel_rfl
theorem sz141 : sizeT Tryz.prog 141 = 3 := by kernel_rfl
section
variable (w : World)
@[go_sem ↓ high] theorem ld_GReplicaTimer (a : Addr) : (gLoad 141 (.pointer (some a))).run Tryz.prog w = ofOpt ((get? GReplicaTimer w a).map GReplicaTimer.val) w (noLoad Tryz.prog 141 a w) := by
  unfold gLoad; exact run_loadAt_opt ag141 sz141 GReplicaTimer.val GReplicaTimer.val_eq
@[go_sem ↓ high] theorem bx_GReplicaTimer (x : GReplicaTimer) : (gBox 141 (GReplicaTimer.val x)).run Tryz.prog w = .ok (.pointer (some ⟨w.heap.size, 0, none⟩)) (w.alloc (.cells (GReplicaTimer.enc x).toArray 141)) := by
  rw [GReplicaTimer.val_eq]; exact run_gBox _ w
end
theorem lk141_0 (x : GReplicaTimer) : x.enc[0]? = some (.int .u64 x.due) := by
  simp [GReplicaTimer.enc, List.getElem?_append]
theorem zr141 : zeroT Tryz.prog 141 = some (.agg (GReplicaTimer.enc default).toArray) := by kernel_rfl
theorem GReplicaTimer.at_due {w : World} {a : Addr} {x : GReplicaTimer} (h : get? GReplicaTimer w a = some x) : w.cell? (a.add 0) = some (.int .u64 x.due) := (get?_iff.1 h) _ _ (lk141_0 x)
@[go_sem] theorem nl141_0 (x : GReplicaTimer) : x.enc[0]? = some (.int .u64 x.due) := by
  have h := (GReplicaTimer.at_due (get?_new (w := (default : World)) 141 x))
  simp only [Addr.add_lit, Nat.zero_add, Nat.reduceAdd, World.cell?_alloc_new, List.getElem?_toArray] at h
  exact h
theorem pl141 : ((Tryz.prog.fieldsOf 141).toList.mapM fun f => (Tryz.prog.info? f.type).map fun i => (f.offset, i.size)) = some [(0, 1), (1, 2)] := by kernel_rfl
theorem fs141_0 (x : GReplicaTimer) (v : Int) (rest : List (Nat × Value)) : Instr.fill (fun i => ([(0, 1), (1, 2)] : List (Nat × Nat))[i]?) x.enc.toArray ((0, (.int .u64 v)) :: rest) = Instr.fill (fun i => ([(0, 1), (1, 2)] : List (Nat × Nat))[i]?) ({ x with due := v } : GReplicaTimer).enc.toArray rest := by
  have h := fill_seg [(0, 1), (1, 2)] 0 0 1 rfl (([] : List Value)) ([(.int .u64 x.due)]) (x.t.enc ++ (([] : List Value))) ([(.int .u64 v)]) (.int .u64 v) rest (rfl) (by simp [GTimer.enc_len]) (by simp [GTimer.enc_len]) (by simp [GTimer.enc_len])
  have e1 : x.enc = (([] : List Value)) ++ ([(.int .u64 x.due)] ++ (x.t.enc ++ (([] : List Value)))) := by simp only [GReplicaTimer.enc, List.nil_append, List.append_assoc, List.append_nil]
  have e2 : ({ x with due := v } : GReplicaTimer).enc = (([] : List Value)) ++ ([(.int .u64 v)] ++ (x.t.enc ++ (([] : List Value)))) := by simp only [GReplicaTimer.enc, List.nil_append, List.append_assoc, List.append_nil]
  rw [e1, e2]; exact h
theorem fs141_1 (x : GReplicaTimer) (v : GTimer) (rest : List (Nat × Value)) : Instr.fill (fun i => ([(0, 1), (1, 2)] : List (Nat × Nat))[i]?) x.enc.toArray ((1, (v.val)) :: rest) = Instr.fill (fun i => ([(0, 1), (1, 2)] : List (Nat × Nat))[i]?) ({ x with t := v } : GReplicaTimer).enc.toArray rest := by
  have h := fill_seg [(0, 1), (1, 2)] 1 1 2 rfl (([] : List Value) ++ ([(.int .u64 x.due)])) (x.t.enc) (([] : List Value)) (v.enc) (v.val) rest (by rw [GTimer.val_eq]; rfl) (by simp [GTimer.enc_len]) (by simp [GTimer.enc_len]) (by simp [GTimer.enc_len])
  have e1 : x.enc = (([] : List Value) ++ ([(.int .u64 x.due)])) ++ (x.t.enc ++ (([] : List Value))) := by simp only [GReplicaTimer.enc, List.nil_append, List.append_assoc, List.append_nil]
  have e2 : ({ x with t := v } : GReplicaTimer).enc = (([] : List Value) ++ ([(.int .u64 x.due)])) ++ (v.enc ++ (([] : List Value))) := by simp only [GReplicaTimer.enc, List.nil_append, List.append_assoc, List.append_nil]
  rw [e1, e2]; exact h
@[go_sem ↓ high] theorem xd_GReplicaTimer (ρ : Operand → Value) (dst : Option Tmp) (ps : Array (Nat × Operand)) (ty : TypeId) (pos : String) (after : Array Edge) (guard : Option (Nat × Bool)) : execOp ρ { dst, op := .build 141 ps, type := ty, pos, after, guard } = (do pure (.value (← gBuild 141 (ps.map fun (i, x) => (i, ρ x))))) := ex_build ..
@[go_sem ↓ high] theorem bd141_0 (w : World) (v0 : Int) (v1 : GTimer) : (gBuild 141 #[(0, (.int .u64 v0)), (1, (v1.val))]).run Tryz.prog w = .ok (GReplicaTimer.val ⟨v0, v1⟩) w := by
  rw [GReplicaTimer.val_eq]
  refine run_gBuild_of uu141 zr141 pl141 ?_ w
  show Instr.fill _ (GReplicaTimer.enc default).toArray [(0, (.int .u64 v0)), (1, (v1.val))] = _
  rw [fs141_0, fs141_1]; rfl
/-! ### gavel/replica.voter -/
structure GReplicaVoter where
  round : Int
  replica : Int
deriving DecidableEq
instance : Inhabited GReplicaVoter := ⟨⟨0, 0⟩⟩
def GReplicaVoter.enc (x : GReplicaVoter) : List Value := [(.int .i64 x.round)] ++ ([(.int .i64 x.replica)])
theorem GReplicaVoter.enc_len (x : GReplicaVoter) : x.enc.length = 2 := by simp [GReplicaVoter.enc]
theorem GReplicaVoter.enc_one (x : GReplicaVoter) : ∀ u ∈ x.enc, u.oneCell' = true := by
  intro u hu
  simp only [GReplicaVoter.enc, List.mem_append, List.mem_singleton] at hu
  rcases hu with hu | hu
  · subst hu; rfl
  · subst hu; rfl
theorem GReplicaVoter.enc_inj (x y : GReplicaVoter) (h : x.enc = y.enc) : x = y := by
  obtain ⟨a0, a1⟩ := x
  obtain ⟨b0, b1⟩ := y
  simp only [GReplicaVoter.enc] at h
  obtain ⟨p0, q0⟩ := List.append_inj h (rfl)
  have e0 : a0 = b0 := by have := List.head_eq_of_cons_eq p0; injection this
  have e1 : a1 = b1 := by have := List.head_eq_of_cons_eq q0; injection this
  rw [e0, e1]
instance : Enc GReplicaVoter where
  n := 2
  enc := GReplicaVoter.enc
  pos := by omega
  len := GReplicaVoter.enc_len
  one := GReplicaVoter.enc_one
  inj := GReplicaVoter.enc_inj
@[go_sem] theorem GReplicaVoter.n_eq : Enc.n GReplicaVoter = 2 := rfl
@[irreducible] def GReplicaVoter.val (x : GReplicaVoter) : Value := .agg x.enc.toArray
theorem GReplicaVoter.val_eq (x : GReplicaVoter) : GReplicaVoter.val x = .agg (Enc.enc x).toArray := by unfold GReplicaVoter.val; rfl
section
variable (w : World)
end
/-! ### []replica.timer -/
theorem ei130 : ElemI Tryz.prog 130 141 GReplicaTimer 24 := ⟨by kernel_rfl, by kernel_rfl⟩
@[go_sem ↓ high] theorem xg_130 (ρ : Operand → Value) (dst : Option Tmp) (ps : Array (Nat × Operand)) (ty : TypeId) (pos : String) (after : Array Edge) (guard : Option (Nat × Bool)) : execOp ρ { dst, op := .buildSlice 130 1 ps, type := ty, pos, after, guard } = (do pure (.value (← gBuildSlice 130 1 (ps.map fun (i, x) => (i, ρ x))))) := ex_buildSlice ..
@[go_sem ↓ high] theorem bs_130 (w : World) (x : GReplicaTimer) : (gBuildSlice 130 1 #[(0, GReplicaTimer.val x)]).run Tryz.prog w = .ok (.slice (some ⟨w.heap.size, 0, none⟩) 1 1) (w.alloc (.cells (GReplicaTimer.enc x).toArray 141)) := by
  rw [GReplicaTimer.val_eq]; exact run_buildSlice_one ei130 (by decide) x w
instance : KEnc GReplicaVoter := ⟨GReplicaVoter.val, fun a b h => by rw [GReplicaVoter.val_eq, GReplicaVoter.val_eq] at h; injection h with h; exact Enc.inj _ _ (by simpa using congrArg Array.toList h)⟩
instance : VEnc GVote := ⟨GVote.val, fun a b h => by rw [GVote.val_eq, GVote.val_eq] at h; injection h with h; exact Enc.inj _ _ (by simpa using congrArg Array.toList h)⟩

/-! ### map[replica.voter]api.Vote -/
end Go.Proofs.YtfhhcgldikmejaaGreatDoor
/- A region that leaves its order of evaluation open: operations that only look may come in any order. Conditions: those named in each theorem. -/
namespace Go.Gv
open Go Go.RowKit

/-! ### A region that draws its order: operations that only look come first, in whatever order; the rest comes in one forced order.
What looks must find the same in every world of a class (the worlds 'W z'); the rest must stay in the class. -/
section
variable {P : Program} {ops : Array Oper} {md : Region.Mode} {Q : Exit → Act → World → Prop} {ι : Type} {W : ι → World}

@[go_sem] def lookUpon (P : Program) (w : World) (v : Value) : Result Next → Prop
  | .ok (.value u) w' => w' = w ∧ u = v
  | .ok .skip w' => w' = w ∧ v = undef
  | .ok (.enter f args) w' => w' = w ∧ Calls P f args w (fun e w'' => e = .returned v ∧ ∃ m, w'' = w.drewN m)
  | _ => False
@[go_sem] def _root_.Go.Oper.looks (P : Program) (o : Oper) (a : Act) (W : ι → World) (next : Act → Prop) : Prop := ∃ v, (∀ z, lookUpon P (W z) v ((execOp a.eval o).run P (W z))) ∧ next (a.put o.dst v)

def YieldsL (P : Program) (ops : Array Oper) (W : ι → World) (o : Oper) (v : Value) (a : Act) : Prop :=
  (Region.wanted o (yielded ops a.tmps) = true ∧ ∀ z, lookUpon P (W z) v ((execOp a.eval o).run P (W z))) ∨ (Region.wanted o (yielded ops a.tmps) = false ∧ v = undef)
/-- Whatever order is picked from here on, after whatever further draws; every world on the way is of the class. -/
def wpE (P : Program) (md : Region.Mode) (ops : Array Oper) (Q : Exit → Act → World → Prop) (W : ι → World) : Nat → Array Bool → Act → World → Prop
  | 0, listed, a, w => Region.ready md ops listed = [] ∧ ∀ n, Q .normal a (w.drewN n)
  | fuel + 1, listed, a, w =>
    (Region.ready md ops listed = [] → ∀ n, Q .normal a (w.drewN n)) ∧
    ∀ i ∈ Region.ready md ops listed, ∀ n, wpOp P ops Q i (fun a' w' => (∃ z, w' = W z) ∧ wpE P md ops Q W fuel (listed.setIfInBounds i true) a' w') a (w.drewN n)
/-- The first part, as it is walked. -/
def wpLooks (P : Program) (ops : Array Oper) (W : ι → World) (K : Act → Prop) : List Oper → Act → Prop
  | [], a => K a
  | o :: rest, a => if Region.wanted o (yielded ops a.tmps) then o.looks P a W (wpLooks P ops W K rest) else wpLooks P ops W K rest (a.put o.dst undef)
/-- The second part, as it is walked. -/
def wpRest (P : Program) (ops : Array Oper) (Q : Exit → Act → World → Prop) (W : ι → World) : List Oper → Act → World → Prop
  | [], a, w => ∀ n, Q .normal a (w.drewN n)
  | o :: rest, a, w => ∀ n, if Region.wanted o (yielded ops a.tmps) then o.wp P a (w.drewN n) (fun a' w' => (∃ z, w' = W z) ∧ wpRest P ops Q W rest a' w') Q else (∃ z, w.drewN n = W z) ∧ wpRest P ops Q W rest (a.put o.dst undef) (w.drewN n)

def seqL (md : Region.Mode) (ops : Array Oper) : List Nat → Array Bool → Bool
  | [], listed => (Region.ready md ops listed).isEmpty
  | t :: tl, listed => decide (Region.ready md ops listed = [t]) && seqL md ops tl (listed.setIfInBounds t true)
def permB (md : Region.Mode) (ops : Array Oper) (tl : List Nat) : List Nat → Array Bool → Bool
  | [], listed => seqL md ops tl listed
  | i :: hd, listed => (Region.ready md ops listed).contains i && Region.free md ops listed i && permB md ops tl hd (listed.setIfInBounds i true)

/-- A class of worlds as a family, with its shape hidden. -/
theorem classFam (C : World → Prop) {w : World} (h : C w) : ∃ (ι : Type) (W : ι → World), Nonempty ι ∧ (∀ z, C (W z)) ∧ ∀ w', C w' → ∃ z, w' = W z :=
  ⟨{w' // C w'}, Subtype.val, ⟨⟨w, h⟩⟩, fun z => z.2, fun w' h => ⟨⟨w', h⟩, rfl⟩⟩
end
end Go.Gv
/- Regions that leave their order open, phase by phase; facts carried from world to world. Conditions: those named in each theorem. -/
namespace Go.Gv
open Go Go.RowKit

section
variable {P : Program} {ops : Array Oper} {md : Region.Mode} {Q : Exit → Act → World → Prop} {ι ι' : Type} {W : ι → World} {W' : ι' → World}

def setAll (listed : Array Bool) : List Nat → Array Bool
  | [] => listed
  | i :: hd => setAll (listed.setIfInBounds i true) hd
def permH (md : Region.Mode) (ops : Array Oper) : List Nat → Array Bool → Bool
  | [], _ => true
  | i :: hd, listed => (Region.ready md ops listed).contains i && Region.free md ops listed i && permH md ops hd (listed.setIfInBounds i true)

/-! Forced operations of the common kinds. -/
section
variable {fuel : Nat} {listed : Array Bool} {a : Act} {w : World} (t : Nat) (o : Oper) (ho : ops[t]? = some o) (hr : (Region.ready md ops listed == [t]) = true) (hg : o.guard = none)
include ho hr hg
end
end

/-! ### Facts carried from one world to the next -/
/-- All that there was in w0 is there in w. -/
def Bel (w0 w : World) : Prop := Below w0.heap.size w0 w
theorem Bel.refl (w : World) : Bel w w := Below.refl _ _
theorem Bel.step {w0 w w' : World} (h : Bel w0 w) (hb : Below w.heap.size w w') : Bel w0 w' := Below.trans h (hb.mono h.size)
theorem Bel.trans {w0 w w' : World} (h : Bel w0 w) (hb : Bel w w') : Bel w0 w' := h.step hb
theorem Bel.alloc {w0 w : World} (h : Bel w0 w) (o : Obj) : Bel w0 (w.alloc o) := Below.alloc h h.size o
theorem Bel.drew {w0 w : World} (h : Bel w0 w) : Bel w0 w.drew := Below.drew h
theorem Bel.size {w0 w : World} (h : Bel w0 w) : w0.heap.size ≤ w.heap.size := Below.size h
theorem Sl.stepB {α : Type} [Enc α] {w w' : World} {A : Option Addr} {n : Nat} {xs : List α} (h : Sl α w w.heap.size A n xs) (hb : Bel w w') : Sl α w' w'.heap.size A n xs := (h.below hb).more hb.size
theorem OwnS.step {α : Type} [Enc α] {w w' : World} {base : Nat} {e : TypeId} {v : Value} {xs : List α} (h : OwnS w base e v xs) (hb : Below w.heap.size w w') : OwnS w' base e v xs := h.below hb (Nat.le_refl _)
end Go.Gv
/- What Within, Prefix, Same and Less compute. Conditions: those named in each theorem. -/
namespace Go.Proofs.YtfhhcgldikmejaaGreatDoor
open Go Go.RowKit Go.Gv

def within (v n : Int) : Int := if n < 1 then 0 else v % n

set_option maxHeartbeats 400000 in
theorem within_any (v n : Int) (w : World) (hn : n ≤ 9223372036854775807) (_hv : -9223372036854775808 ≤ v) (_hv2 : v ≤ 9223372036854775807) :
    Calls Tryz.prog 7 #[.int .i64 v, .int .i64 n] w fun e w' => e = .returned (.int .i64 (within v n)) ∧ w = w' := by
  by_cases h1 : n < 1
  · go_enter Tryz.func7, Tryz.ntmps7
    go_wp2
    go_ret
    exact ⟨ret_int (by unfold within; rw [if_pos h1]), rfl⟩
  · have h2 := tmod_lo (v := v) (n := n) (by omega)
    by_cases h3 : v.tmod n < 0
    · go_enter Tryz.func7, Tryz.ntmps7
      go_wp2
      go_ret
      exact ⟨ret_int (by unfold within; rw [if_neg (by omega)]; exact tmod_neg (by omega) h3), rfl⟩
    · go_enter Tryz.func7, Tryz.ntmps7
      go_wp2
      go_ret
      exact ⟨ret_int (by unfold within; rw [if_neg (by omega)]; exact tmod_pos (by omega) (by omega)), rfl⟩

def prefixB (a b : List GEntry) : Bool := decide (a.take (min a.length b.length) = b.take (min a.length b.length))
/-- Two lists of entries, held against each other place by place. -/
def sameB {α : Type} [DecidableEq α] (a b : List α) : Bool := decide (a = b)
def lessB (a b : GName) : Bool := decide (a.client < b.client) || (decide (a.client = b.client) && decide (a.seq < b.seq))

end Go.Proofs.YtfhhcgldikmejaaGreatDoor
/- What audit.Once computes. Conditions: those named in each theorem. -/
namespace Go.Proofs.YtfhhcgldikmejaaGreatDoor
open Go Go.RowKit Go.Gv

def onceB (xs : List GEntry) : Bool := decide ((xs.map (·.name)).Nodup)

structure OnceInv (xs : List GEntry) (k : Nat) (m : List (GName × Bool)) : Prop where
  look : ∀ n, (mget m n).getD false = decide (n ∈ (xs.take k).map (·.name))
  nd : ((xs.take k).map (·.name)).Nodup
end Go.Proofs.YtfhhcgldikmejaaGreatDoor
/- What the two functions below compute. Conditions: those named in each theorem. -/
namespace Go.Proofs.YtfhhcgldikmejaaGreatDoor
open Go Go.RowKit Go.Gv

/-- All of a below all of b. -/
def allBelow (a b : List U64) : Bool := decide (∀ x ∈ a, ∀ y ∈ b, x.v < y.v)
def belowB (a b : List U64) : Bool := allBelow a b && (decide (0 < a.length) && decide (0 < b.length))
end Go.Proofs.YtfhhcgldikmejaaGreatDoor
/- What cmp.Compare, cmp.Or and lock.Before compute. Conditions: those named in each theorem. -/
namespace Go.Proofs.YtfhhcgldikmejaaGreatDoor
open Go Go.RowKit Go.Gv

def cmpI (a b : Int) : Int := if a < b then -1 else if b < a then 1 else 0
def orI (xs : List Int) : Int := (xs.find? fun x => x != 0).getD 0
def beforeI (a b : GName) : Int := orI [cmpI a.client b.client, cmpI a.seq b.seq]
end Go.Proofs.YtfhhcgldikmejaaGreatDoor
/- What audit.Rising computes. Conditions: those named in each theorem. -/
namespace Go.Proofs.YtfhhcgldikmejaaGreatDoor
open Go Go.RowKit Go.Gv

/-- Does b stand rightly behind a? -/
def riseB (a b : GEntry) : Bool := decide (a.time < b.time) || (decide (b.time = a.time) && decide (beforeI a.name b.name < 0))
def risingB : List GEntry → Bool
  | a :: b :: r => riseB a b && risingB (b :: r)
  | _ => true
end Go.Proofs.YtfhhcgldikmejaaGreatDoor
/- What audit.Fair computes. Conditions: those named in each theorem. -/
namespace Go.Proofs.YtfhhcgldikmejaaGreatDoor
open Go Go.RowKit Go.Gv

/-- A slice of slices of entries reads as a list of lists. -/
def LogsIs (w : World) (B : Nat) (A : Option Addr) (n : Nat) (ls : List (List GEntry)) : Prop :=
  ∃ hs : List Hdr, Sl Hdr w B A n hs ∧ hs.length = ls.length ∧ ∀ (i : Nat) (h : Hdr) (l : List GEntry), hs[i]? = some h → ls[i]? = some l → Sl GEntry w B h.a h.len l ∧ h.len ≤ h.cap ∧ h.cap ≤ maxLen
def fairB (ls : List (List GEntry)) (st : GName → List U64) : Bool :=
  ls.all fun l => (List.range l.length).all fun i => (List.range i).all fun j => !belowB (st (l.getD i default).name) (st (l.getD j default).name)
end Go.Proofs.YtfhhcgldikmejaaGreatDoor
/- What the law of small entries computes. Conditions: those named in each theorem. -/
namespace Go.Proofs.YtfhhcgldikmejaaGreatDoor
open Go Go.RowKit Go.Gv

def smallE (e : GEntry) : GEntry := ⟨⟨within e.name.client 2, within e.name.seq 3⟩, default, e.time.tmod 4⟩
def smallL (xs : List GEntry) : List GEntry := (xs.take 8).map smallE
/-- Entries whose numbers fit. -/
def EntryOk (e : GEntry) : Prop := (-9223372036854775808 ≤ e.name.client ∧ e.name.client ≤ 9223372036854775807) ∧ (-9223372036854775808 ≤ e.name.seq ∧ e.name.seq ≤ 9223372036854775807) ∧ 0 ≤ e.time ∧ e.time ≤ 18446744073709551615

theorem within_is (v n r : Int) (w : World) (hr : within v n = r) (hn : n ≤ 9223372036854775807) (hv : -9223372036854775808 ≤ v) (hv2 : v ≤ 9223372036854775807) :
    Calls Tryz.prog 7 #[.int .i64 v, .int .i64 n] w fun e w' => e = .returned (.int .i64 r) ∧ w' = w := by
  subst hr; exact flipC (within_any v n w hn hv hv2)

end Go.Proofs.YtfhhcgldikmejaaGreatDoor
/- What Copy, Cut, audit.Agree and wakes compute. Conditions: those named in each theorem. -/
namespace Go.Proofs.YtfhhcgldikmejaaGreatDoor
open Go Go.RowKit Go.Gv

/-- Of each two logs one is a beginning of the other one. -/
def agreeB (ls : List (List GEntry)) : Bool := decide (∀ i < ls.length, ∀ j < i, prefixB (ls.getD i []) (ls.getD j []) = true)
end Go.Proofs.YtfhhcgldikmejaaGreatDoor
/- AuditGrows returns true, walked. Conditions: those named in each theorem. -/
namespace Go.Proofs.YtfhhcgldikmejaaGreatDoor
open Go Go.RowKit Go.Gv

/-- Slices of the call's own, by their address. -/
def OwnA {α : Type} [Enc α] (w : World) (base : Nat) (e : TypeId) (A : Option Addr) (c : Nat) (xs : List α) : Prop := OwnS w base e (.slice A xs.length c) xs
section
variable {α : Type} [Enc α] {w w' : World} {base B : Nat} {e t : TypeId} {A : Option Addr} {c : Nat} {xs ys : List α} {P : Program}
theorem OwnS.ownA {v : Value} (h : OwnS w base e v xs) : ∃ A c, v = .slice A xs.length c ∧ OwnA w base e A c xs ∧ xs.length ≤ c ∧ c ≤ maxLen := by
  obtain ⟨A, c, rfl, _, h1, h2, _⟩ := h.shape
  exact ⟨A, c, rfl, h, h1, h2⟩
end

def Logs2 (w : World) (B : Nat) : List Hdr → List (List GEntry) → Prop
  | [], [] => True
  | h :: hs, l :: ls => (Sl GEntry w B h.a h.len l ∧ h.len ≤ h.cap ∧ h.cap ≤ maxLen) ∧ Logs2 w B hs ls
  | _, _ => False
end Go.Proofs.YtfhhcgldikmejaaGreatDoor
/- A map of stamps under construction; AuditTurned returns true, walked. Conditions: those named in each theorem. -/
namespace Go.Proofs.YtfhhcgldikmejaaGreatDoor
open Go Go.RowKit Go.Gv

section
variable {w w' : World} {r : Nat} {ob ob' : Option Nat} {m : List (GName × Hdr)} {st : GName → List U64}
end

/-! ### AuditTurned, plain -/
def entE (i : Nat) (t : Int) : GEntry := ⟨⟨i, 1⟩, default, t⟩
def entL (T : List Int) : List GEntry := T.mapIdx entE
def stOf (T : List Int) (k : GName) : List U64 := if k.seq = 1 ∧ 0 ≤ k.client then (match T[k.client.toNat]? with | some t => [⟨t⟩, ⟨t + 1⟩] | none => []) else []
structure TimesOk (T : List Int) (L : Int) : Prop where
  up : ∀ (i j : Nat) (a b : Int), T[i]? = some a → T[j]? = some b → i < j → a + 1 < b
  le : ∀ t ∈ T, 0 ≤ t ∧ t + 1 ≤ L
  l0 : 0 ≤ L
  l6 : L ≤ 6 * T.length
end Go.Proofs.YtfhhcgldikmejaaGreatDoor
/- A whole element written into a slice of the call's own. Conditions: those named in each theorem. -/
namespace Go.Proofs.YtfhhcgldikmejaaGreatDoor
open Go Go.RowKit Go.Gv

def setSeg : List Value → Nat → List Value → List Value
  | l, _, [] => l
  | l, p, v :: vs => setSeg (l.set p v) (p + 1) vs
theorem setSeg_mid : ∀ (b a pre rest : List Value), a.length = b.length → setSeg (pre ++ (a ++ rest)) pre.length b = pre ++ (b ++ rest)
  | [], a, pre, rest, h => by
    have : a = [] := List.eq_nil_of_length_eq_zero h
    subst this; rfl
  | v :: vs, [], pre, rest, h => by simp at h
  | v :: vs, u :: us, pre, rest, h => by
    unfold setSeg
    rw [List.set_append_right _ _ (Nat.le_refl _), Nat.sub_self, List.cons_append, List.set_cons_zero]
    have := setSeg_mid vs us (pre ++ [v]) rest (by simpa using h)
    simpa using this
end Go.Proofs.YtfhhcgldikmejaaGreatDoor
/- Slices of slices that the call owns. Conditions: those named in each theorem. -/
namespace Go.Proofs.YtfhhcgldikmejaaGreatDoor
open Go Go.RowKit Go.Gv

/-- Headers that read as lists, none of them in block ob. -/
def RowsAt {α : Type} [Enc α] (w : World) (ob : Option Nat) : List Hdr → List (List α) → Prop
  | [], [] => True
  | h :: hs, l :: ls => (Sl α w w.heap.size h.a h.len l ∧ h.len ≤ h.cap ∧ h.cap ≤ maxLen ∧ (0 < h.len → ∀ ad, h.a = some ad → ob ≠ some ad.block)) ∧ RowsAt w ob hs ls
  | _, _ => False
section
variable {α : Type} [Enc α] {w w' : World} {ob ob' : Option Nat}
/-- A slice of slices, all of the call's own. -/
def OwnRows (α : Type) [Enc α] (w : World) (base : Nat) (e : TypeId) (v : Value) (ls : List (List α)) : Prop := ∃ hs : List Hdr, OwnS w base e v hs ∧ RowsAt w v.ownBlock hs ls
variable {base : Nat} {e : TypeId} {v : Value} {ls : List (List α)}
end
end Go.Proofs.YtfhhcgldikmejaaGreatDoor
/- Regions that leave their order open, phase by phase, beside calls that make memory. Conditions: those named in each theorem. -/
namespace Go.Gv
open Go Go.RowKit

/-! G w w': what may come between two operations of the region (draws, new blocks ..). An operation named in T may do more; it waits for all that looks. -/
section
variable {P : Program} {ops : Array Oper} {md : Region.Mode} {Q : Exit → Act → World → Prop} {G : World → World → Prop} {T : List Nat}

@[go_sem] def lookUponG (P : Program) (G : World → World → Prop) (w : World) (v : Value) : Result Next → Prop
  | .ok (.value u) w' => w' = w ∧ u = v
  | .ok .skip w' => w' = w ∧ v = undef
  | .ok (.enter f args) w' => w' = w ∧ Calls P f args w (fun e w'' => e = .returned v ∧ G w w'')
  | _ => False
@[go_sem] def _root_.Go.Oper.looksG {ι : Type} (P : Program) (G : World → World → Prop) (o : Oper) (a : Act) (W : ι → World) (next : Act → Prop) : Prop := ∃ v, (∀ z, lookUponG P G (W z) v ((execOp a.eval o).run P (W z))) ∧ next (a.put o.dst v)

def YieldsG (P : Program) (ops : Array Oper) (G : World → World → Prop) (w : World) (o : Oper) (v : Value) (a : Act) : Prop :=
  (Region.wanted o (yielded ops a.tmps) = true ∧ ∀ w', G w w' → lookUponG P G w' v ((execOp a.eval o).run P w')) ∨ (Region.wanted o (yielded ops a.tmps) = false ∧ v = undef)
theorem YieldsG.of_same {w : World} {o : Oper} {v : Value} {a a' : Act} (hy : YieldsG P ops G w o v a) (he : execOp a'.eval o = execOp a.eval o)
    (hw : Region.wanted o (yielded ops a'.tmps) = Region.wanted o (yielded ops a.tmps)) : YieldsG P ops G w o v a' := by
  unfold YieldsG at *
  rw [he, hw]
  exact hy
theorem YieldsG.ext (ht : ∀ a b c, G a b → G b c → G a c) {w w1 : World} {o : Oper} {v : Value} {a : Act} (hy : YieldsG P ops G w o v a) (h : G w w1) : YieldsG P ops G w1 o v a := by
  rcases hy with ⟨h1, h2⟩ | h
  · exact .inl ⟨h1, fun w' hw' => h2 w' (ht _ _ _ h hw')⟩
  · exact .inr h
theorem YieldsG.wpOp (hrf : ∀ a, G a a) {i : Nat} {o : Oper} {v : Value} {a : Act} {w w' : World} {K : Act → World → Prop} (hi : ops[i]? = some o) (hy : YieldsG P ops G w o v a) (hw' : G w w') (h : ∀ w'', G w' w'' → K (a.put o.dst v) w'') : wpOp P ops Q i K a w' := by
  unfold Go.wpOp
  simp only [hi]
  rcases hy with ⟨hw, hv⟩ | ⟨hw, rfl⟩
  · simp only [hw, if_true]
    refine .inl ?_
    have hz := hv w' hw'
    unfold Oper.wp
    generalize (execOp a.eval o).run P w' = r at hz
    cases r with
    | ok n w1 =>
      cases n <;> simp only [lookUponG] at hz <;> simp only [Oper.upon]
      case value u => obtain ⟨rfl, rfl⟩ := hz; exact h _ (hrf _)
      case skip => obtain ⟨rfl, rfl⟩ := hz; exact h _ (hrf _)
      case enter f args =>
        obtain ⟨rfl, hc⟩ := hz
        refine hc.mono fun e w'' ⟨he, hm⟩ => ?_
        subst he; exact h _ hm
    | halt x w1 => simp only [lookUponG] at hz
  · simp only [hw, Bool.false_eq_true, if_false]; exact h _ (hrf _)
theorem wpOp_putG {j : Nat} {oi oj : Oper} {v : Value} {w w0 : World} (hj : ops[j]? = some oj) (hap : oi.apart ops oj = true)
    (hsi : ∀ cs b, oi.op ≠ .select cs b) (hsj : ∀ cs b, oj.op ≠ .select cs b)
    (hQ : ∀ c a w, Q (.panic c) (a.put oi.dst v) w → Q (.panic c) a w) {K : Act → World → Prop} {a : Act}
    (hy : YieldsG P ops G w0 oi v a) (h : wpOp P ops Q j K (a.put oi.dst v) w) :
    wpOp P ops Q j (fun a' w' => YieldsG P ops G w0 oi v a' ∧ K (a'.put oi.dst v) w') a w := by
  obtain ⟨h1, h2, h3⟩ := Oper.apart_spec hap
  have keep : ∀ (a : Act), YieldsG P ops G w0 oi v a → ∀ u, YieldsG P ops G w0 oi v (a.put oj.dst u) := fun a hy u =>
    hy.of_same (execOp_put oi hsi a oj.dst u h3) (wanted_put oi a oj.dst u h3)
  have keepD : ∀ d, YieldsG P ops G w0 oi v { a with defers := d :: a.defers } := fun d => hy.of_same rfl rfl
  unfold Go.wpOp at *
  simp only [hj] at *
  rw [wanted_put oj a oi.dst v h1] at h
  split
  · rename_i hw
    simp only [hw, if_true] at h
    rcases h with h | ⟨hasks, hlets⟩
    case inr => exact .inr ⟨by unfold Oper.asks at *; rw [execOp_put oj hsj a oi.dst v h1] at hasks; exact hasks, hlets⟩
    refine .inl ?_
    unfold Oper.wp at *
    rw [execOp_put oj hsj a oi.dst v h1] at h
    generalize (execOp a.eval oj).run P w = r at *
    cases r with
    | ok n w' =>
      cases n <;> simp only [Oper.upon] at h ⊢
      case value u => exact ⟨keep a hy u, by rw [← Act.put_comm a v u h2]; exact h⟩
      case skip => exact ⟨keep a hy _, by rw [← Act.put_comm a v undef h2]; exact h⟩
      case defer d =>
        refine ⟨keep _ (keepD d) _, ?_⟩
        rw [← Act.put_comm _ v undef h2, ← Act.put_defers]
        exact h
      case enter f args =>
        refine Calls.mono h fun e w'' he => ?_
        cases e with
        | returned u => exact ⟨keep a hy u, by rw [← Act.put_comm a v u h2]; exact he⟩
        | panicked c => exact hQ _ _ _ he
        | outgrown => exact he
      case row row args => exact Rows.mono h fun u w'' he => ⟨keep a hy u, by rw [← Act.put_comm a v u h2]; exact he⟩
    | halt x w' =>
      cases x <;> simp only [Oper.upon] at h ⊢
      case panic u => exact hQ _ _ _ h
  · rename_i hw
    simp only [hw] at h
    exact ⟨keep a hy _, by rw [← Act.put_comm a v undef h2]; exact h⟩

/-- Whatever order is picked from here on. -/
def wpG (P : Program) (md : Region.Mode) (ops : Array Oper) (Q : Exit → Act → World → Prop) (G : World → World → Prop) (T : List Nat) : Nat → Array Bool → Act → World → Prop
  | 0, listed, a, w => Region.ready md ops listed = [] ∧ ∀ w', G w w' → Q .normal a w'
  | fuel + 1, listed, a, w =>
    (Region.ready md ops listed = [] → ∀ w', G w w' → Q .normal a w') ∧
    ∀ i ∈ Region.ready md ops listed, ∀ w', G w w' → wpOp P ops Q i (fun a' w'' => (i ∉ T → G w' w'') ∧ wpG P md ops Q G T fuel (listed.setIfInBounds i true) a' w'') a w'
theorem wpG_ext (ht : ∀ a b c, G a b → G b c → G a c) {fuel : Nat} {listed : Array Bool} {a : Act} {w w1 : World} (h : wpG P md ops Q G T fuel listed a w) (h1 : G w w1) : wpG P md ops Q G T fuel listed a w1 := by
  cases fuel with
  | zero => exact ⟨h.1, fun w' hw' => h.2 _ (ht _ _ _ h1 hw')⟩
  | succ f => exact ⟨fun h0 w' hw' => h.1 h0 _ (ht _ _ _ h1 hw'), fun i hi w' hw' => h.2 i hi _ (ht _ _ _ h1 hw')⟩
theorem wpAny_of_G (hrf : ∀ a, G a a) : ∀ (fuel : Nat) (listed : Array Bool) (a : Act) (w : World), wpG P md ops Q G T fuel listed a w → wpAny P md ops Q fuel listed a w
  | 0, _, _, _, h => ⟨h.1, h.2 _ (hrf _)⟩
  | fuel + 1, _, _, _, h => ⟨fun h0 => h.1 h0 _ (hrf _), fun i hi => wpOp_mono (fun a' w' h' => wpAny_of_G hrf fuel _ a' w' h'.2) (h.2 i hi _ (hrf _))⟩

/-- What an operation waits for, through others. -/
def waitsFor (md : Region.Mode) (ops : Array Oper) : Nat → Nat → List Nat
  | 0, _ => []
  | n + 1, t => match ops[t]? with
    | none => []
    | some o => (o.after.toList.filter fun e => Region.binds md e).flatMap fun e => e.on :: waitsFor md ops n e.on
def downC (md : Region.Mode) (ops : Array Oper) (listed : Array Bool) : Prop := ∀ j oj, ops[j]? = some oj → listed.getD j false = true → ∀ e ∈ oj.after, Region.binds md e = true → listed.getD e.on false = true
theorem downC_waits {listed : Array Bool} (hd : downC md ops listed) : ∀ (n t : Nat), listed.getD t false = true → ∀ i ∈ waitsFor md ops n t, listed.getD i false = true
  | 0, _, _, i, hi => by simp [waitsFor] at hi
  | n + 1, t, ht, i, hi => by
    unfold waitsFor at hi
    split at hi
    · simp at hi
    · rename_i o ho
      rw [List.mem_flatMap] at hi
      obtain ⟨e, he, hi⟩ := hi
      rw [List.mem_filter] at he
      have h1 := hd t o ho ht e (by simpa using he.1) he.2
      simp only [List.mem_cons] at hi
      rcases hi with rfl | hi
      · exact h1
      · exact downC_waits hd n e.on h1 i hi
theorem ready_waits {listed : Array Bool} (hd : downC md ops listed) {t n : Nat} (hr : t ∈ Region.ready md ops listed) {i : Nat} (hi : i ∈ waitsFor md ops n t) : listed.getD i false = true := by
  obtain ⟨_, o, ho, hall⟩ := mem_ready.1 hr
  cases n with
  | zero => simp [waitsFor] at hi
  | succ n =>
    unfold waitsFor at hi
    rw [ho] at hi
    simp only at hi
    rw [List.mem_flatMap] at hi
    obtain ⟨e, he, hi⟩ := hi
    rw [List.mem_filter] at he
    have h1 := hall e (by simpa using he.1) he.2
    simp only [List.mem_cons] at hi
    rcases hi with rfl | hi
    · exact h1
    · exact downC_waits hd n e.on h1 i hi
theorem downC_set {listed : Array Bool} (hd : downC md ops listed) {i : Nat} (hr : i ∈ Region.ready md ops listed) : downC md ops (listed.setIfInBounds i true) := by
  intro j oj hj hl e he hb
  obtain ⟨_, o, ho, hall⟩ := mem_ready.1 hr
  by_cases hij : i = j
  · subst hij
    rw [ho] at hj; injection hj with hj; subst hj
    exact getD_set_true (hall e he hb)
  · rw [getD_set_ne false hij] at hl
    exact getD_set_true (hd j oj hj hl e he hb)

theorem wpG_first {i : Nat} {oi : Oper} {v : Value} (hrf : ∀ a, G a a) (ht : ∀ a b c, G a b → G b c → G a c) (hi : ops[i]? = some oi) (hsel : ∀ (j : Nat) (o : Oper) cs b, ops[j]? = some o → o.op ≠ .select cs b)
    (hQ : ∀ c (a a' : Act) w, a.defers = a'.defers → Q (.panic c) a w → Q (.panic c) a' w) (n : Nat) (hT : ∀ t ∈ T, i ∈ waitsFor md ops n t) :
    ∀ (fuel : Nat) (listed : Array Bool) (a : Act) (w : World), downC md ops listed →
      (∀ j oj, ops[j]? = some oj → j ≠ i → listed.getD j true = false → (∀ e ∈ oj.after, Region.binds md e = true → e.on ≠ i) → oi.apart ops oj = true) →
      i ∈ Region.ready md ops listed → YieldsG P ops G w oi v a →
      wpG P md ops Q G T fuel (listed.setIfInBounds i true) (a.put oi.dst v) w → wpG P md ops Q G T (fuel + 1) listed a w := by
  intro fuel
  induction fuel with
  | zero =>
    intro listed a w hdc _ hr hy H
    refine ⟨fun h => (by rw [h] at hr; cases hr), fun j hj w' hw' => ?_⟩
    by_cases hji : j = i
    · subst hji
      exact hy.wpOp hrf hi hw' fun w'' hw'' => ⟨fun _ => hw'', wpG_ext ht H (ht _ _ _ hw' hw'')⟩
    · have := ready_mono hj hji
      rw [H.1] at this
      cases this
  | succ fuel ih =>
    intro listed a w hdc hfree hr hy H
    refine ⟨fun h => (by rw [h] at hr; cases hr), fun j hj w' hw' => ?_⟩
    by_cases hji : j = i
    · subst hji
      exact hy.wpOp hrf hi hw' fun w'' hw'' => ⟨fun _ => hw'', wpG_ext ht H (ht _ _ _ hw' hw'')⟩
    · have h1 := H.2 j (ready_mono hj hji) w' hw'
      obtain ⟨hjun, oj, hoj, hall⟩ := mem_ready.1 hj
      have hun : listed.getD i true = false := (mem_ready.1 hr).1
      have hun2 : listed.getD i false = false := by
        rcases Nat.lt_or_ge i listed.size with h' | h'
        · simpa [h'] using hun
        · simp [Array.getElem?_eq_none h'] at hun
      have hnot : ∀ e ∈ oj.after, Region.binds md e = true → e.on ≠ i := fun e he hb heq => by
        have h1 := hall e he hb
        rw [heq, hun2] at h1; cases h1
      have hjT : j ∉ T := fun hjt => by
        have := ready_waits hdc hj (hT j hjt)
        rw [hun2] at this; cases this
      have h2 := wpOp_putG (G := G) hoj (hfree j oj hoj hji hjun hnot) (fun cs b => hsel i oi cs b hi) (fun cs b => hsel j oj cs b hoj) (fun c a w h => hQ c _ _ w (by cases oi.dst <;> rfl) h) (hy.ext ht hw') h1
      have hfree' : ∀ k ok, ops[k]? = some ok → k ≠ i → (listed.setIfInBounds j true).getD k true = false →
          (∀ e ∈ ok.after, Region.binds md e = true → e.on ≠ i) → oi.apart ops ok = true := fun k ok hk hki hun hno => by
        refine hfree k ok hk hki ?_ hno
        by_cases hjk : j = k
        · subst hjk; exact hjun
        · rw [getD_set_ne true hjk] at hun; exact hun
      refine wpOp_mono (fun a' w'' h3 => ⟨h3.2.1, ?_⟩) h2
      obtain ⟨hy', hG, h4⟩ := h3
      refine ih (listed.setIfInBounds j true) a' w'' (downC_set hdc hj) hfree' (ready_mono hr (Ne.symm hji)) (hy'.ext ht (hG hjT)) ?_
      rw [Array.setIfInBounds_comm _ _ hji]
      exact h4

/-- The looking operations, as they are walked. -/
def wpLooksG {ι : Type} (P : Program) (ops : Array Oper) (G : World → World → Prop) (W : ι → World) (K : Act → Prop) : List Oper → Act → Prop
  | [], a => K a
  | o :: rest, a => if Region.wanted o (yielded ops a.tmps) then o.looksG P G a W (wpLooksG P ops G W K rest) else wpLooksG P ops G W K rest (a.put o.dst undef)
theorem wpLooksG_nil {ι : Type} {W : ι → World} {K : Act → Prop} {a : Act} (h : K a) : wpLooksG P ops G W K [] a := h
theorem wpLooksG_step {ι : Type} {W : ι → World} {K0 : Act → Prop} {a : Act} {o : Oper} {rest : List Oper}
    (h : ∀ K : Act → Prop, (∀ a, wpLooksG P ops G W K0 rest a → K a) → if Region.wanted o (yielded ops a.tmps) then o.looksG P G a W K else K (a.put o.dst undef)) : wpLooksG P ops G W K0 (o :: rest) a :=
  h _ (fun _ h => h)
def permG (md : Region.Mode) (ops : Array Oper) (T : List Nat) (m : Nat) : List Nat → Array Bool → Bool
  | [], _ => true
  | i :: hd, listed => (Region.ready md ops listed).contains i && Region.free md ops listed i && (T.all fun t => (waitsFor md ops m t).contains i) && permG md ops T m hd (listed.setIfInBounds i true)
def downB (md : Region.Mode) (ops : Array Oper) (listed : Array Bool) : Bool := (List.range ops.size).all fun j => !(listed.getD j false) || ((ops[j]?).map fun o => o.after.all fun e => !(Region.binds md e) || listed.getD e.on false).getD true
theorem downB_spec {listed : Array Bool} (h : downB md ops listed = true) : downC md ops listed := by
  intro j oj hj hl e he hb
  unfold downB at h
  rw [List.all_eq_true] at h
  have := h j (List.mem_range.2 (Array.getElem?_eq_some_iff.1 hj).1)
  rw [hl, hj] at this
  simp only [Bool.not_true, Bool.false_or, Option.map_some, Option.getD_some, Array.all_eq_true_iff_forall_mem] at this
  have := this e he
  rw [hb] at this
  simpa using this
theorem wpG_looks_aux {ι : Type} {W : ι → World} (hrf : ∀ a, G a a) (ht : ∀ a b c, G a b → G b c → G a c) (hs : Region.noSelect ops = true) (hQ : ∀ c (a a' : Act) w, a.defers = a'.defers → Q (.panic c) a w → Q (.panic c) a' w) (m fuel : Nat) (w : World) (hW : ∀ w', G w w' → ∃ z, w' = W z) :
    ∀ (hd : List Nat) (lh : List Oper) (listed : Array Bool) (a : Act), hd.mapM (fun i => ops[i]?) = some lh → downC md ops listed → permG md ops T m hd listed = true →
    wpLooksG P ops G W (fun a' => wpG P md ops Q G T fuel (setAll listed hd) a' w) lh a → wpG P md ops Q G T (hd.length + fuel) listed a w
  | [], lh, listed, a, hl, _, _, h => by
    simp at hl; subst hl
    have e : ([] : List Nat).length + fuel = fuel := by simp
    rw [e]; exact h
  | i :: hd, lh, listed, a, hl, hdc, hB, h => by
    simp only [List.mapM_cons, Option.bind_eq_bind, Option.pure_def] at hl
    cases hi : ops[i]? with
    | none => simp [hi] at hl
    | some o =>
      cases hr : hd.mapM (fun i => ops[i]?) with
      | none => simp [hi, hr] at hl
      | some l' =>
        simp [hi, hr] at hl
        subst hl
        simp only [permG, Bool.and_eq_true, List.all_eq_true, List.contains_iff_mem] at hB
        obtain ⟨⟨⟨hB1, hB2⟩, hB3⟩, hB4⟩ := hB
        rw [show (i :: hd).length + fuel = (hd.length + fuel) + 1 by simp; omega]
        unfold wpLooksG at h
        split at h
        · rename_i hw
          obtain ⟨v, hv, hk⟩ := h
          exact wpG_first hrf ht hi (Region.noSelect_spec hs) hQ m hB3 _ listed a w hdc (Region.free_spec hi hB2) hB1 (.inl ⟨hw, fun w' hw' => by
            obtain ⟨z, rfl⟩ := hW w' hw'
            exact hv z⟩) (wpG_looks_aux hrf ht hs hQ m fuel w hW hd l' _ _ hr (downC_set hdc hB1) hB4 hk)
        · rename_i hw
          exact wpG_first hrf ht hi (Region.noSelect_spec hs) hQ m hB3 _ listed a w hdc (Region.free_spec hi hB2) hB1 (.inr ⟨by simpa using hw, rfl⟩) (wpG_looks_aux hrf ht hs hQ m fuel w hW hd l' _ _ hr (downC_set hdc hB1) hB4 h)
/-- The operations, written out. -/
def nthO : List Oper → Nat → Option Oper
  | [], _ => none
  | o :: _, 0 => some o
  | _ :: l, n + 1 => nthO l n
theorem nthO_eq : ∀ (l : List Oper) (n : Nat), nthO l n = l[n]?
  | [], n => by simp [nthO]
  | _ :: _, 0 => rfl
  | _ :: l, n + 1 => by unfold nthO; rw [nthO_eq l n]; rfl
def picks (l : List Oper) : List Nat → Option (List Oper)
  | [] => some []
  | i :: hd => match nthO l i, picks l hd with
    | some o, some r => some (o :: r)
    | _, _ => none
theorem picks_eq (l : List Oper) : ∀ (hd : List Nat) (lh : List Oper), picks l hd = some lh → hd.mapM (fun i => l.toArray[i]?) = some lh
  | [], lh, h => by simp [picks] at h; subst h; rfl
  | i :: hd, lh, h => by
    unfold picks at h
    split at h
    · rename_i o r h1 h2
      injection h with h; subst h
      rw [List.mapM_cons, picks_eq l hd r h2]
      rw [nthO_eq] at h1
      simp [h1]
    · cases h
/-- What looks comes first; W z: the worlds in which it may look. -/
theorem wpG_looks {l : List Oper} {n : Nat} {lh : List Oper} {listed : Array Bool} {a : Act} {w : World} (fuel m : Nat) (hd : List Nat) (hn : n = hd.length + fuel) (hrf : ∀ a, G a a) (ht : ∀ a b c, G a b → G b c → G a c) (hs : Region.noSelect l.toArray = true) (hQ : ∀ c (a a' : Act) w, a.defers = a'.defers → Q (.panic c) a w → Q (.panic c) a' w)
    (hl : picks l hd = some lh) (hB : (downB md l.toArray listed && permG md l.toArray T m hd listed) = true)
    (h : ∀ (ι : Type) (W : ι → World), Nonempty ι → Hid (∀ z, G w (W z)) → wpLooksG P l.toArray G W (fun a' => wpG P md l.toArray Q G T fuel (setAll listed hd) a' w) lh a) : wpG P md l.toArray Q G T n listed a w := by
  subst hn
  rw [Bool.and_eq_true] at hB
  obtain ⟨ι, W, hne, hW, hWs⟩ := classFam (G w) (hrf w)
  exact wpG_looks_aux hrf ht hs hQ m fuel w hWs hd lh listed a (picks_eq l hd lh hl) (downB_spec hB.1) hB.2 (h ι W hne (Lib.hid hW))
/-- One operation alone is ready. -/
theorem wpG_force {l : List Oper} {fuel : Nat} {listed : Array Bool} {a : Act} {w : World} (t : Nat) (o : Oper) (ho : nthO l t = some o) (hr : (Region.ready md l.toArray listed == [t]) = true) (hg : o.guard = none)
    (h : ∀ w', G w w' → ∀ K : Act → World → Prop, (∀ a' w'', (t ∉ T → G w' w'') → wpG P md l.toArray Q G T fuel (listed.setIfInBounds t true) a' w'' → K a' w'') → o.wp P a w' K Q) : wpG P md l.toArray Q G T (fuel + 1) listed a w := by
  have ho : l.toArray[t]? = some o := by rw [← ho, nthO_eq]; simp
  have hr' : Region.ready md l.toArray listed = [t] := by simpa using hr
  refine ⟨fun h0 => (by rw [hr'] at h0; cases h0), fun i hi w' hw' => ?_⟩
  rw [hr'] at hi
  obtain rfl : i = t := by simpa using hi
  unfold Go.wpOp
  simp only [ho]
  rw [if_pos (by simp [Region.wanted, hg])]
  exact .inl (h w' hw' _ fun a' w'' h1 h2 => ⟨h1, h2⟩)
theorem wpG_end {listed : Array Bool} {a : Act} {w : World} (hr : (Region.ready md ops listed).isEmpty = true) (h : ∀ w', G w w' → Q .normal a w') : ∀ fuel, wpG P md ops Q G T fuel listed a w
  | 0 => ⟨by simpa using hr, h⟩
  | _ + 1 => ⟨fun _ => h, fun i hi => by
      have : Region.ready md ops listed = [] := by simpa using hr
      rw [this] at hi; cases hi⟩
theorem wp_region_G {id : Nat} {a : Act} {w : World} {l : List Oper} (G : World → World → Prop) (T : List Nat) (hrf : ∀ a, G a a) (hm : P.follows .mixedOrders = true)
    (h : wpG P .any l.toArray Q G T l.toArray.size (Array.replicate l.toArray.size false) a w.drew) : (Code.region id l.toArray true).wp P Q a w :=
  wp_region_any hm (wpAny_of_G hrf _ _ _ _ h)
end

/-- New blocks and draws; what was there stands. -/
def GB (w w' : World) : Prop := Below w.heap.size w w'
theorem GB.rf (a : World) : GB a a := Below.refl _ _
theorem GB.tr (a b c : World) (h : GB a b) (k : GB b c) : GB a c := Below.trans h (Below.mono k (Below.size h))
theorem GB.al (w : World) (o : Obj) : GB w (w.alloc o) := (Below.refl _ _).alloc (Nat.le_refl _) o
theorem GB.undrew {w w' : World} (h : GB w.drew w') : Bel w w' := by
  have h0 : Below w.drew.heap.size w.drew w' := h
  exact ⟨h0.os, h0.tape, h0.output, h0.size, h0.block⟩
theorem GB.cell {w w' : World} (h : GB w w') {p : Addr} {v : Value} (hc : w.cell? p = some v) : w'.cell? p = some v := (Below.cell h (World.block_lt_of_cell? w _ hc)).trans hc
theorem GB.get {α : Type} [Enc α] {w w' : World} (h : GB w w') {p : Addr} {x : α} (hc : get? α w p = some x) : get? α w' p = some x := (get?_below h (get?_lt hc)).trans hc
theorem quietG {P : Program} {f : FuncId} {args : Array Value} {w : World} {v : Value} {R : Ending → World → Prop} (h : Calls P f args w R) (hR : ∀ e w', R e w' → e = .returned v ∧ w' = w) : Calls P f args w fun e w' => e = .returned v ∧ GB w w' :=
  h.mono fun e w' h => by obtain ⟨h1, h2⟩ := hR e w' h; subst h2; exact ⟨h1, GB.rf _⟩
/-- .. but for one block. -/
def GX (r : Nat) (w w' : World) : Prop := w.grownBy w' (some r)
end Go.Gv
/- Regions with two operations ready at once; a field of a struct written. Conditions: those named in each theorem. -/
namespace Go.Gv
open Go Go.RowKit
section
variable {P : Program} {md : Region.Mode} {Q : Exit → Act → World → Prop} {G : World → World → Prop} {T : List Nat}
/-- Two operations are ready. -/
theorem wpG_two {l : List Oper} {fuel : Nat} {listed : Array Bool} {a : Act} {w : World} (t1 t2 : Nat) (o1 o2 : Oper) (ho1 : nthO l t1 = some o1) (ho2 : nthO l t2 = some o2) (hr : (Region.ready md l.toArray listed == [t1, t2]) = true) (hg1 : o1.guard = none) (hg2 : o2.guard = none)
    (h1 : ∀ w', G w w' → ∀ K : Act → World → Prop, (∀ a' w'', (t1 ∉ T → G w' w'') → wpG P md l.toArray Q G T fuel (listed.setIfInBounds t1 true) a' w'' → K a' w'') → o1.wp P a w' K Q)
    (h2 : ∀ w', G w w' → ∀ K : Act → World → Prop, (∀ a' w'', (t2 ∉ T → G w' w'') → wpG P md l.toArray Q G T fuel (listed.setIfInBounds t2 true) a' w'' → K a' w'') → o2.wp P a w' K Q) : wpG P md l.toArray Q G T (fuel + 1) listed a w := by
  have ho1 : l.toArray[t1]? = some o1 := by rw [← ho1, nthO_eq]; simp
  have ho2 : l.toArray[t2]? = some o2 := by rw [← ho2, nthO_eq]; simp
  have hr' : Region.ready md l.toArray listed = [t1, t2] := by simpa using hr
  refine ⟨fun h0 => (by rw [hr'] at h0; cases h0), fun i hi w' hw' => ?_⟩
  rw [hr'] at hi
  simp only [List.mem_cons, List.not_mem_nil, or_false] at hi
  unfold Go.wpOp
  rcases hi with rfl | rfl
  · simp only [ho1]
    rw [if_pos (by simp [Region.wanted, hg1])]
    exact .inl (h1 w' hw' _ fun a' w'' k1 k2 => ⟨k1, k2⟩)
  · simp only [ho2]
    rw [if_pos (by simp [Region.wanted, hg2])]
    exact .inl (h2 w' hw' _ fun a' w'' k1 k2 => ⟨k1, k2⟩)
end
theorem get?_poke {α : Type} [Enc α] {w : World} {g j : Nat} {x y : α} {v : Value} (h : get? α w ⟨g, 0, none⟩ = some x) (hy : Enc.enc y = (Enc.enc x).set j v) : get? α (w.setCell ⟨g, j, none⟩ v) ⟨g, 0, none⟩ = some y := by
  have hadd : ∀ i, (⟨g, 0, none⟩ : Addr).add i = ⟨g, i, none⟩ := fun i => by unfold Addr.add; split <;> simp_all
  rw [get?_iff] at h ⊢
  intro i u hu
  have hlen : (Enc.enc x).length = Enc.n α := Enc.len x
  rw [hadd]
  have hi : i < (Enc.enc x).length := by have := (List.getElem?_eq_some_iff.1 hu).1; rw [Enc.len] at this; omega
  have hx := h i _ (List.getElem?_eq_getElem hi)
  rw [hadd] at hx
  rw [hy] at hu
  by_cases e : j = i
  · subst e
    rw [World.cell?_setCell_same w _ v hx]
    rw [List.getElem?_set_self hi] at hu; exact hu
  · rw [World.cell?_setCell_other w _ _ v (fun h => e (by injection h)), hx]
    rw [List.getElem?_set_ne e, List.getElem?_eq_getElem hi] at hu; exact hu
end Go.Gv
/- Ranging over a map that reads as a list. Conditions: those named in each theorem. -/
namespace Go.Gv
open Go Go.RowKit Go.ChangeMaps Go.MapKept
set_option linter.unusedSectionVars false

theorem leftOf_push (es : Array MapEntry) (seen : Array Nat) (k : Nat) : (leftOf es (seen.push k)).toList = (leftOf es seen).toList.filter fun x => !(x.born == k) := by
  unfold leftOf
  rw [Array.toList_filter, Array.toList_filter, List.filter_filter]
  apply List.filter_congr
  intro x _
  rw [Go.contains_push]
  cases seen.contains x.born <;> cases (x.born == k) <;> rfl
theorem filter_born {a b : List MapEntry} {e : MapEntry} (hp : (a ++ e :: b).Pairwise fun x y => x.born < y.born) : (a ++ e :: b).filter (fun x => !(x.born == e.born)) = a ++ b := by
  rw [List.pairwise_append] at hp
  obtain ⟨_, h2, h3⟩ := hp
  rw [List.pairwise_cons] at h2
  rw [List.filter_append, List.filter_cons]
  have ha : a.filter (fun x => !(x.born == e.born)) = a := by
    rw [List.filter_eq_self]
    intro x hx
    have := h3 x hx e (by simp)
    simp; omega
  have hb : b.filter (fun x => !(x.born == e.born)) = b := by
    rw [List.filter_eq_self]
    intro x hx
    have := h2.1 x hx
    simp; omega
  simp [ha, hb]
section
variable {K V : Type} [DecidableEq K] [KEnc K] [VEnc V] {P : Program} {w w' : World} {r it : Nat} {m left : List (K × V)}
/-- Block it is an iterator over the map in block r, which reads as m; left: what is still to come. -/
def Ranges (w : World) (r it : Nat) (m left : List (K × V)) : Prop :=
  ∃ es clock since seen c0, w.heap[r]? = some (.map es clock) ∧ es.toList.map (fun e => (e.key, e.val)) = m.map (fun p => (KEnc.kv p.1, VEnc.vv p.2)) ∧ (m.map (·.1)).Nodup ∧
    es.toList.Pairwise (fun a b => a.born < b.born) ∧ (∀ e ∈ es.toList, e.born < clock) ∧
    w.heap[it]? = some (.mapIter (some r) since seen c0) ∧ (∀ x ∈ es.toList, x.born < since) ∧ since ≤ c0 ∧ since ≤ clock ∧
    (leftOf es seen).toList.map (fun e => (e.key, e.val)) = left.map (fun p => (KEnc.kv p.1, VEnc.vv p.2))
theorem Ranges.ne (h : Ranges w r it m left) : it ≠ r := by
  obtain ⟨es, clock, since, seen, c0, hb, _, _, _, _, hi, _⟩ := h
  intro e
  rw [e, hb] at hi
  cases hi
theorem Ranges.leftN (h : Ranges w r it m left) : w.rangeLeft r it = left.length := by
  obtain ⟨es, clock, since, seen, c0, hb, _, _, _, _, hi, _, _, _, hl⟩ := h
  simp only [World.rangeLeft, hb, hi]
  have := congrArg List.length hl
  simpa using this
/-- 'range m'. -/
theorem ranges_start {tM tK tV : TypeId} (hM : P.underlying tM = some (.map tK tV)) (h : mapAt K V w r = some m) :
    ∃ o, (Instr.range tM (.map (some r))).run P w = .ok (.pointer (some ⟨w.heap.size, 0, none⟩)) (w.alloc o) ∧ Ranges (w.alloc o) r w.heap.size m m := by
  have hlt := mapAt_lt h
  obtain ⟨es, clock, hb, he, hn, hp, hc⟩ := mapAt_iff.1 h
  refine ⟨_, run_range_map w tM tK tV r es clock hM hb, es, clock, clock, #[], clock, (Go.heap_alloc_old w _ hlt).trans hb, he, hn, hp, hc, Go.heap_alloc_new w _, hc, Nat.le_refl _, Nat.le_refl _, ?_⟩
  rw [← he]
  unfold leftOf
  rw [Array.toList_filter, List.filter_eq_self.2 (by intro x _; simp)]
/-- The step: nothing is left, or one that is left comes, whichever. -/
theorem Ranges.next (P : Program) (h : Ranges w r it m left) :
    (left = [] ∧ ∀ ty : TypeId, (Instr.next (.pointer (some ⟨it, 0, none⟩)) false ty).run P w = .ok (.tuple #[.bool false]) w) ∨
    ∃ l1 p l2 w', left = l1 ++ p :: l2 ∧ (∀ ty : TypeId, (Instr.next (.pointer (some ⟨it, 0, none⟩)) false ty).run P w = .ok (.tuple #[.bool true, KEnc.kv p.1, VEnc.vv p.2]) w') ∧ Ranges w' r it m (l1 ++ l2) ∧
      w.grownBy w' (some it) ∧ w'.heap.size = w.heap.size ∧ (Instr.entry (.pointer (some ⟨it, 0, none⟩))).run P w' = .ok (.tuple #[KEnc.kv p.1, VEnc.vv p.2]) w' := by
  have hne := h.ne
  obtain ⟨es, clock, since, seen, c0, hb, he, hn, hp, hc, hit, hold, hsc, hsk, hl⟩ := h
  rcases run_next_at (P := P) w 0 it r since c0 seen es clock hit hb hold hsc with ⟨h0, hrun⟩ | ⟨e, hel, w1, hal, hrun⟩
  · refine .inl ⟨?_, fun _ => hrun⟩
    have := congrArg List.length hl
    simp only [List.length_map, Array.length_toList, h0] at this
    exact List.eq_nil_of_length_eq_zero this.symm
  · obtain ⟨hem, hes⟩ := mem_left hel
    obtain ⟨a, b, hab⟩ := List.append_of_mem hel
    have hl2 := hl
    rw [hab, List.map_append, List.map_cons] at hl2
    obtain ⟨l1, lr, rfl, e1, e2⟩ := List.map_eq_append_iff.1 hl2.symm
    obtain ⟨p, l2, rfl, e3, e4⟩ := List.map_eq_cons_iff.1 e2
    simp only [Prod.mk.injEq] at e3
    have hr1 : w1.heap[it]? = some (.mapIter (some r) since seen c0) := by rcases hal with rfl | rfl <;> exact hit
    have hb1 : w1.heap[r]? = some (.map es clock) := by rcases hal with rfl | rfl <;> exact hb
    have hset := heap_set (o' := .mapIter (some r) since (seen.push e.born) clock) hr1
    have hb' : (setBlock w1 it (.mapIter (some r) since (seen.push e.born) clock)).heap[r]? = some (.map es clock) := (hset.2 r (fun e1 => hne e1.symm)).trans hb1
    have hborn : (es.toList.map (·.born)).Nodup := by
      rw [List.Nodup, List.pairwise_map]
      exact hp.imp fun h => by omega
    refine .inr ⟨l1, p, l2, _, rfl, fun ty => by rw [e3.1, e3.2]; exact hrun, ⟨es, clock, since, seen.push e.born, clock, hb', he, hn, hp, hc, hset.1, hold, hsk, hsk, ?_⟩, ?_, ?_, ?_⟩
    · rw [leftOf_push, hab, filter_born, List.map_append, List.map_append, e1, e4]
      rw [← hab]
      unfold leftOf
      rw [Array.toList_filter]
      exact hp.filter _
    · rcases hal with rfl | rfl <;> exact ⟨rfl, rfl, rfl, by simp [setBlock], fun i _ hi => hset.2 i (fun e1 => hi (by rw [e1]))⟩
    · rcases hal with rfl | rfl <;> simp [setBlock]
    · rw [e3.1, e3.2]
      exact run_entry_at _ it r since seen es clock e hset.1 hb' hem hborn
end
end Go.Gv
/- Two lists, place by place. Conditions: those named in each theorem. -/
namespace Go.Gv
/-- Two lists, place by place. -/
def R2 {α β : Type} (R : α → β → Prop) : List α → List β → Prop
  | [], [] => True
  | a :: l, b :: m => R a b ∧ R2 R l m
  | _, _ => False
section
variable {α β : Type} {R R' : α → β → Prop}
end
end Go.Gv
/- Worlds that differ in some blocks alone; slices by the blocks they lie in. Conditions: those named in each theorem. -/
namespace Go.Proofs.YtfhhcgldikmejaaGreatDoor
open Go Go.RowKit Go.Gv

/-- w' is w but for the blocks S, and new ones. -/
structure Chg (S : Nat → Prop) (w w' : World) : Prop where
  os : w'.os = w.os
  tape : w'.tape = w.tape
  output : w'.output = w.output
  size : w.heap.size ≤ w'.heap.size
  block : ∀ k, k < w.heap.size → ¬ S k → w'.heap[k]? = w.heap[k]?
theorem Chg.sub {S S' : Nat → Prop} {w w' : World} (h : Chg S w w') (hS : ∀ k, S k → S' k) : Chg S' w w' := ⟨h.os, h.tape, h.output, h.size, fun k hk hn => h.block k hk (fun hs => hn (hS k hs))⟩
section
variable {S S' : Nat → Prop} {w w' w2 : World}
theorem Chg.refl (S : Nat → Prop) (w : World) : Chg S w w := ⟨rfl, rfl, rfl, Nat.le_refl _, fun _ _ _ => rfl⟩
theorem Chg.trans (h : Chg S w w') (k : Chg S' w' w2) (hS : ∀ k, S' k → S k ∨ w.heap.size ≤ k) : Chg S w w2 :=
  ⟨k.os.trans h.os, k.tape.trans h.tape, k.output.trans h.output, Nat.le_trans h.size k.size, fun i hi hn => (k.block i (Nat.lt_of_lt_of_le hi h.size) (fun hs => by rcases hS i hs with h1 | h1; exact hn h1; omega)).trans (h.block i hi hn)⟩
theorem Chg.tr (h : Chg S w w') (k : Chg S w' w2) : Chg S w w2 := h.trans k fun _ h => .inl h
theorem Chg.of_bel (h : Bel w w') (S : Nat → Prop) : Chg S w w' := ⟨Below.os h, Below.tape h, Below.output h, Below.size h, fun k hk _ => Below.block h k hk⟩
theorem Chg.of_grown {row : Option Nat} (h : w.grownBy w' row) (hS : ∀ k, row = some k → S k) : Chg S w w' := ⟨h.os, h.tape, h.output, h.size, fun k hk hn => h.block k hk (fun e => hn (hS k e.symm))⟩
theorem Chg.bel (h : Chg S w w') (hS : ∀ k, S k → w.heap.size ≤ k) : Bel w w' := ⟨h.os, h.tape, h.output, h.size, fun k hk => h.block k hk (fun hs => by have := hS k hs; omega)⟩
theorem Chg.bel2 {w0 : World} (hb : Bel w0 w) (h : Chg S w w') (hS : ∀ k, S k → w0.heap.size ≤ k) : Bel w0 w' :=
  ⟨h.os.trans (Below.os hb), h.tape.trans (Below.tape hb), h.output.trans (Below.output hb), Nat.le_trans hb.size h.size, fun k hk => (h.block k (Nat.lt_of_lt_of_le hk hb.size) (fun hs => by have := hS k hs; omega)).trans (Below.block hb k hk)⟩
theorem Chg.cell {p : Addr} {v : Value} (h : Chg S w w') (hc : w.cell? p = some v) (hp : ¬ S p.block) : w'.cell? p = some v :=
  (World.cell?_of_block (w := w) (h.block _ (World.block_lt_of_cell? w _ hc) hp)).trans hc
theorem Chg.get {α : Type} [Enc α] {a : Addr} {x : α} (h : Chg S w w') (hg : get? α w a = some x) (hp : ¬ S a.block) : get? α w' a = some x := (get?_keep (h.block _ (get?_lt hg) hp)).trans hg
theorem Chg.free {n : Nat} (h : Chg S w w') (hf : blkFree w n = true) (hl : n < w.heap.size) (hn : ¬ S n) : blkFree w' n = true := (blkFree_keep (h.block _ hl hn)).trans hf
theorem Chg.map {K V : Type} [DecidableEq K] [KEnc K] [VEnc V] {r : Nat} {m : List (K × V)} (h : Chg S w w') (hm : mapAt K V w r = some m) (hr : ¬ S r) : mapAt K V w' r = some m := (mapAt_keep (h.block _ (mapAt_lt hm) hr)).trans hm
/-- A slice whose block, if it has elements, is one of Q. -/
def SlQ (α : Type) [Enc α] (Q : Nat → Prop) (w : World) (h : Hdr) (xs : List α) : Prop := Sl α w w.heap.size h.a h.len xs ∧ h.len ≤ h.cap ∧ h.cap ≤ maxLen ∧ (0 < h.len → ∀ ad, h.a = some ad → Q ad.block)
theorem _root_.Go.Gv.Sl.chg {α : Type} [Enc α] {A : Option Addr} {n : Nat} {xs : List α} (h : Chg S w w') (hs : Sl α w w.heap.size A n xs) (hx : 0 < n → ∀ ad, A = some ad → ¬ S ad.block) : Sl α w' w'.heap.size A n xs := by
  refine ⟨hs.1, fun hn => ?_⟩
  obtain ⟨ad, e, hb, hc⟩ := hs.2 hn
  exact ⟨ad, e, Nat.lt_of_lt_of_le hb h.size, fun k x hx' => Chg.get h (hc k x hx') (by rw [add_block]; exact hx hn ad e)⟩
theorem _root_.Go.Gv.OwnS.keep {α : Type} [Enc α] {base : Nat} {e : TypeId} {v : Value} {xs : List α} (h : OwnS w base e v xs) (hk : ∀ k, v.ownBlock = some k → w'.heap[k]? = w.heap[k]?) : OwnS w' base e v xs := by
  refine ⟨h.1, ?_⟩
  rcases h.2 with ⟨h1, h2⟩ | ⟨g, cap, cur, hv, hb, hh, rest⟩
  · exact .inl ⟨h1, h2⟩
  · exact .inr ⟨g, cap, cur, hv, hb, (hk g (by rw [hv]; rfl)).trans hh, rest⟩
theorem _root_.Go.Gv.OwnS.chg {α : Type} [Enc α] {base : Nat} {e : TypeId} {v : Value} {xs : List α} (h : OwnS w base e v xs) (hc : Chg S w w') (hS : ∀ k, v.ownBlock = some k → ¬ S k) : OwnS w' base e v xs :=
  h.keep fun k hk => hc.block k (h.lt k hk).2 (hS k hk)
end
end Go.Proofs.YtfhhcgldikmejaaGreatDoor
/- Sizes of a service. Conditions: those named in each theorem. -/
namespace Go.Proofs.YtfhhcgldikmejaaGreatDoor
open Go Go.RowKit Go.Gv Go.Proofs

def validB (c : GConf) : Bool := decide (1 ≤ c.f) && (decide (c.f ≤ 21) && (decide (1 ≤ c.clients) && decide (c.clients ≤ 100)))
theorem validB_iff {c : GConf} : validB c = true ↔ 1 ≤ c.f ∧ c.f ≤ 21 ∧ 1 ≤ c.clients ∧ c.clients ≤ 100 := by unfold validB; simp
def inB (c : GConf) (i : Int) : Bool := decide (0 ≤ i) && decide (i < 3 * c.f + 1)
set_option maxRecDepth 100000 in
theorem valid_any (c : GConf) (w : World) : Calls Tryz.prog 74 #[c.val] w fun e w' => e = .returned (.bool (validB c)) ∧ Bel w w' := by
  by_cases h0 : 1 ≤ c.f
  · skip
    by_cases h1 : c.f ≤ 21
    · skip
      by_cases h2 : 1 ≤ c.clients
      · skip
        by_cases h3 : c.clients ≤ 100
        · skip
          go_enter Tryz.func74, Tryz.ntmps74
          go_wp2_with fail
          go_ret
          exact ⟨ret_bool (by unfold validB; simp <;> omega), (Bel.refl w).alloc _⟩
        · skip
          go_enter Tryz.func74, Tryz.ntmps74
          go_wp2_with fail
          go_ret
          exact ⟨ret_bool (by unfold validB; simp <;> omega), (Bel.refl w).alloc _⟩
      · skip
        go_enter Tryz.func74, Tryz.ntmps74
        go_wp2_with fail
        go_ret
        exact ⟨ret_bool (by unfold validB; simp <;> omega), (Bel.refl w).alloc _⟩
    · skip
      go_enter Tryz.func74, Tryz.ntmps74
      go_wp2_with fail
      go_ret
      exact ⟨ret_bool (by unfold validB; simp <;> omega), (Bel.refl w).alloc _⟩
  · skip
    go_enter Tryz.func74, Tryz.ntmps74
    go_wp2_with fail
    go_ret
    exact ⟨ret_bool (by unfold validB; simp <;> omega), (Bel.refl w).alloc _⟩
set_option maxRecDepth 100000 in
theorem n_any (c : GConf) (w : World) (h1 : -1000000 ≤ c.f) (h2 : c.f ≤ 1000000) : Calls Tryz.prog 90 #[c.val] w fun e w' => e = .returned (.int .i64 (3 * c.f + 1)) ∧ Bel w w' := by
  have e1 : IntKind.i64.wrap (3 * c.f) = 3 * c.f := IntWalk.i64_in _ (by omega)
  have e2 : IntKind.i64.wrap (3 * c.f + 1) = 3 * c.f + 1 := IntWalk.i64_in _ (by omega)
  go_enter Tryz.func90, Tryz.ntmps90
  go_wp2_with fail
  go_ret
  exact ⟨rfl, (Bel.refl w).alloc _⟩
set_option maxRecDepth 100000 in
theorem q_any (c : GConf) (w : World) (h1 : -1000000 ≤ c.f) (h2 : c.f ≤ 1000000) : Calls Tryz.prog 112 #[c.val] w fun e w' => e = .returned (.int .i64 (2 * c.f + 1)) ∧ Bel w w' := by
  have e1 : IntKind.i64.wrap (2 * c.f) = 2 * c.f := IntWalk.i64_in _ (by omega)
  have e2 : IntKind.i64.wrap (2 * c.f + 1) = 2 * c.f + 1 := IntWalk.i64_in _ (by omega)
  go_enter Tryz.func112, Tryz.ntmps112
  go_wp2_with fail
  go_ret
  exact ⟨rfl, (Bel.refl w).alloc _⟩
set_option maxRecDepth 100000 in
theorem in_any (c : GConf) (i : Int) (w : World) (h1 : -1000000 ≤ c.f) (h2 : c.f ≤ 1000000) : Calls Tryz.prog 75 #[c.val, .int .i64 i] w fun e w' => e = .returned (.bool (inB c i)) ∧ Bel w w' := by
  have HB := Lib.hid ((Bel.refl w).alloc (.cells (GConf.enc c).toArray 24))
  by_cases h0 : 0 ≤ i
  · go_enter Tryz.func75, Tryz.ntmps75
    go_wp2_with fail
    refine (n_any c _ h1 h2).mono ?_
    rintro _ w1 ⟨rfl, hb⟩
    have HB1 := Lib.hid (HB.out.trans hb)
    clear hb
    go_wp2_with fail
    go_ret
    exact ⟨ret_bool (by unfold inB; simp <;> omega), HB1.out⟩
  · go_enter Tryz.func75, Tryz.ntmps75
    go_wp2_with fail
    go_ret
    exact ⟨ret_bool (by unfold inB; simp <;> omega), HB.out⟩
theorem in_is (b : Bool) (c : GConf) (i : Int) (w : World) (hb : inB c i = b) (h1 : -1000000 ≤ c.f) (h2 : c.f ≤ 1000000) : Calls Tryz.prog 75 #[c.val, .int .i64 i] w fun e w' => e = .returned (.bool b) ∧ Bel w w' := by subst hb; exact in_any c i w h1 h2
theorem valid_is (b : Bool) (c : GConf) (w : World) (hb : validB c = b) : Calls Tryz.prog 74 #[c.val] w fun e w' => e = .returned (.bool b) ∧ Bel w w' := by subst hb; exact valid_any c w
def mayR (c : GConf) (i : Int) : Bool := validB c && inB c i
end Go.Proofs.YtfhhcgldikmejaaGreatDoor
/- Zero values written as literals. Conditions: none. -/
namespace Go.Proofs.YtfhhcgldikmejaaGreatDoor
open Go Go.RowKit Go.Gv

theorem gBuild_zero {α : Type} [Enc α] {P : Program} {t : TypeId} {x : α} (val : α → Value) (hv : val x = .agg (Enc.enc x).toArray) (h : P.built t [] = some (Enc.enc x).toArray) (w : World) : (gBuild t #[]).run P w = .ok (val x) w := by
  rw [hv]
  unfold gBuild
  exact run_build w t #[] _ h
@[go_sem ↓ high] theorem xd0_350 (ρ : Operand → Value) (dst : Option Tmp) (ps : Array (Nat × Operand)) (ty : TypeId) (pos : String) (after : Array Edge) (guard : Option (Nat × Bool)) : execOp ρ { dst, op := .build 350 ps, type := ty, pos, after, guard } = (do pure (.value (← gBuild 350 (ps.map fun (i, x) => (i, ρ x))))) := ex_build ..
@[go_sem ↓ high] theorem bd0_350 (w : World) : (gBuild 350 #[]).run Tryz.prog w = .ok (GCodeWriter.val default) w := gBuild_zero GCodeWriter.val (GCodeWriter.val_eq _) (by kernel_rfl) w
@[go_sem ↓ high] theorem bd0_41 (w : World) : (gBuild 41 #[]).run Tryz.prog w = .ok (GStamp.val default) w := gBuild_zero GStamp.val (GStamp.val_eq _) (by kernel_rfl) w
@[go_sem ↓ high] theorem xd0_35 (ρ : Operand → Value) (dst : Option Tmp) (ps : Array (Nat × Operand)) (ty : TypeId) (pos : String) (after : Array Edge) (guard : Option (Nat × Bool)) : execOp ρ { dst, op := .build 35 ps, type := ty, pos, after, guard } = (do pure (.value (← gBuild 35 (ps.map fun (i, x) => (i, ρ x))))) := ex_build ..
@[go_sem ↓ high] theorem bd0_35 (w : World) : (gBuild 35 #[]).run Tryz.prog w = .ok (GHash.val default) w := gBuild_zero GHash.val (GHash.val_eq _) (by kernel_rfl) w
end Go.Proofs.YtfhhcgldikmejaaGreatDoor
/- Numbers and rows as bytes: what the writer writes. Conditions: those named in each theorem. -/
namespace Go.Proofs.YtfhhcgldikmejaaGreatDoor
open Go Go.RowKit Go.Gv Go.Proofs

theorem chg_setCell {S : Nat → Prop} {w : World} {p : Addr} (hp : S p.block) (u : Value) : Chg S w (w.setCell p u) :=
  ⟨rfl, rfl, rfl, by simp, fun k _ hn => Below.heap_setCell _ _ _ _ (fun e => hn (e ▸ hp))⟩
/-- A number's bytes. -/
def numL (n : Nat) : List U8 := if n < 128 then [⟨UInt8.ofNat n⟩] else ⟨UInt8.ofNat (n % 128 + 128)⟩ :: numL (n / 128)
termination_by n
decreasing_by omega
theorem numL_small {n : Nat} (h : n < 128) : numL n = [⟨UInt8.ofNat n⟩] := by rw [numL, if_pos h]
theorem numL_big {n : Nat} (h : ¬ n < 128) : numL n = ⟨UInt8.ofNat (n % 128 + 128)⟩ :: numL (n / 128) := by rw [numL, if_neg h]
theorem numL_len : ∀ (k n : Nat), n < 128 ^ (k + 1) → (numL n).length ≤ k + 1
  | 0, n, h => by rw [numL_small (by simpa using h)]; simp
  | k + 1, n, h => by
    by_cases h1 : n < 128
    · rw [numL_small h1]; simp
    · rw [numL_big h1, List.length_cons]
      have := numL_len k (n / 128) (by rw [Nat.pow_succ] at h; omega)
      omega
theorem numL_le {n : Nat} (h : n < 18446744073709551616) : (numL n).length ≤ 10 := numL_len 9 n (Nat.lt_of_lt_of_le h (by decide))
def intL (n : Int) : List U8 := numL (max 0 n).toNat
theorem intL_le {n : Int} (h : n ≤ 9223372036854775807) : (intL n).length ≤ 10 := numL_le (by omega)
def rowL (l : List U8) : List U8 := intL l.length ++ l
def hashL (h : GHash) : List U8 := h.l.map U8.mk
theorem hashL_len (h : GHash) : (hashL h).length = 32 := by unfold hashL; rw [List.length_map, h.h]
def bytesL (s : ByteArray) : List U8 := s.data.toList.map U8.mk

/-- At p lies a writer whose bytes are bs; all of it is new since w0. -/
structure WrIs (w0 w : World) (p : Nat) (bs : List U8) : Prop where
  bel : Bel w0 w
  own : ∃ hd : Hdr, get? GCodeWriter w ⟨p, 0, none⟩ = some ⟨hd⟩ ∧ OwnS w w0.heap.size 5 hd.val bs ∧ hd.val.ownBlock ≠ some p
  lt : w0.heap.size ≤ p
  free : blkFree w p = true
section
variable {w0 w w' : World} {p : Nat} {bs ys : List U8}
theorem WrIs.step (h : WrIs w0 w p bs) (hb : Bel w w') : WrIs w0 w' p bs := by
  obtain ⟨hd, h1, h2, h3⟩ := h.own
  exact ⟨h.bel.trans hb, ⟨hd, GB.get hb h1, h2.step hb, h3⟩, h.lt, (blkFree_keep (Below.block hb _ (get?_lt h1))).trans h.free⟩
/-- The blocks that a writer writes. -/
def wrFoot (w : World) (p : Nat) (k : Nat) : Prop := k = p ∨ ∃ hd : Hdr, get? GCodeWriter w ⟨p, 0, none⟩ = some ⟨hd⟩ ∧ hd.val.ownBlock = some k
/-- The writer's bytes are ys now; nothing else was changed. -/
structure WrDid (w0 w : World) (p : Nat) (ys : List U8) (w' : World) : Prop where
  is : WrIs w0 w' p ys
  chg : Chg (wrFoot w p) w w'
  foot : ∀ k, wrFoot w' p k → wrFoot w p k ∨ w.heap.size ≤ k
theorem WrDid.refl (h : WrIs w0 w p bs) : WrDid w0 w p bs w := ⟨h, Chg.refl _ _, fun _ hk => .inl hk⟩
theorem WrDid.trans {w2 : World} {zs : List U8} (h : WrDid w0 w p ys w') (k : WrDid w0 w' p zs w2) : WrDid w0 w p zs w2 :=
  ⟨k.is, h.chg.trans k.chg h.foot, fun i hi => by
    rcases k.foot i hi with h1 | h1
    · exact h.foot i h1
    · exact .inr (Nat.le_trans h.chg.size h1)⟩
theorem wrFoot_bel (h : WrIs w0 w p bs) (hb : Bel w w') {k : Nat} (hk : wrFoot w' p k) : wrFoot w p k := by
  obtain ⟨hd, h1, _⟩ := h.own
  rcases hk with rfl | ⟨hd', h2, h3⟩
  · exact .inl rfl
  · rw [GB.get hb h1] at h2
    injection h2 with h2
    exact .inr ⟨hd, h1, by rw [show hd = hd' by injection h2]; exact h3⟩
theorem WrDid.bel {w2 : World} {zs : List U8} (h : WrIs w0 w p bs) (hb : Bel w w') (k : WrDid w0 w' p zs w2) : WrDid w0 w p zs w2 :=
  WrDid.trans (w' := w') (ys := bs) ⟨h.step hb, Chg.of_bel hb _, fun _i hi => .inl (wrFoot_bel h hb hi)⟩ k
/-- A writer behind an append whose header is stored. -/
theorem WrIs.put {hd : Hdr} {v' : Value} {n c : Nat} {A : Option Addr} (hbel : Bel w0 w) (hg : get? GCodeWriter w ⟨p, 0, none⟩ = some ⟨hd⟩) (ho : OwnS w w0.heap.size 5 hd.val bs) (hne : hd.val.ownBlock ≠ some p) (hlt : w0.heap.size ≤ p) (hf : blkFree w p = true)
    (ho' : OwnS w' w0.heap.size 5 v' ys) (hv : v' = .slice A n c) (hgr : w.grownBy w' hd.val.ownBlock) (hob : v'.ownBlock = hd.val.ownBlock ∨ v'.ownBlock = some w.heap.size) :
    WrDid w0 w p ys (w'.setCell ⟨p, 0, none⟩ v') := by
  have hpl := get?_lt hg
  have hg' : get? GCodeWriter w' ⟨p, 0, none⟩ = some ⟨hd⟩ := (get?_keep (hgr.block p hpl (fun e => hne e.symm))).trans hg
  have hne' : v'.ownBlock ≠ some p := by
    rcases hob with h | h
    · rw [h]; exact hne
    · rw [h]; intro e; injection e with e; simp only at hpl; omega
  have hc : Chg (fun k => k = p) w' (w'.setCell ⟨p, 0, none⟩ v') := chg_setCell (S := fun k => k = p) (p := ⟨p, 0, none⟩) rfl _
  have hb1 : Bel w0 w' := Below.grown hbel hgr hbel.size (fun k hk => (ho.lt k hk).1)
  have hgp : get? GCodeWriter (w'.setCell ⟨p, 0, none⟩ v') ⟨p, 0, none⟩ = some ⟨⟨A, n, c⟩⟩ := get?_poke (y := (⟨⟨A, n, c⟩⟩ : GCodeWriter)) (j := 0) (v := v') hg' (by rw [hv]; rfl)
  refine ⟨?_, (Chg.of_grown (S := wrFoot w p) hgr (fun k hk => .inr ⟨hd, hg, hk⟩)).tr (hc.sub (fun k hk => .inl hk)), ?_⟩
  rotate_left
  · rintro k (rfl | ⟨hd', h1, h2⟩)
    · exact .inl (.inl rfl)
    · rw [hgp] at h1
      injection h1 with h1
      rw [show hd' = ⟨A, n, c⟩ by injection h1 with h1; exact h1.symm] at h2
      have h3 : v'.ownBlock = some k := by rw [hv]; exact h2
      rcases hob with h | h
      · exact .inl (.inr ⟨hd, hg, by rw [← h]; exact h3⟩)
      · rw [h] at h3; injection h3 with h3; exact .inr (by omega)
  refine ⟨Chg.bel2 hb1 hc (fun k hk => by rw [hk]; exact hlt), ⟨⟨A, n, c⟩, ?_, ?_, ?_⟩, hlt, ?_⟩
  · exact hgp
  · have := ho'.chg hc (fun k hk e => hne' (by rw [hk, e]))
    rwa [hv] at this ⊢
  · rw [hv] at hne'; exact hne'
  · rw [blkFree_setCell]
    exact (blkFree_keep (hgr.block p hpl (fun e => hne e.symm))).trans hf
end
end Go.Proofs.YtfhhcgldikmejaaGreatDoor
/- Maps read as lists: an entry taken out. Conditions: those named in each theorem. -/
namespace Go.Gv
open Go Go.RowKit

section
set_option linter.unusedSectionVars false
variable {K V : Type} [DecidableEq K] [KEnc K] [VEnc V] {P : Program} {tK tM tV : TypeId}
end
end Go.Gv
/- Results that lie in memory. Conditions: those named in each theorem. -/
namespace Go.Proofs.YtfhhcgldikmejaaGreatDoor
open Go Go.RowKit Go.Gv
theorem results_cell_tmp {P : Program} {fn : Func} {α : Type} [Enc α] {a u : Tmp} {t : TypeId} {tmps : Array Value} {w : World} {ad : Addr} {x : α} (hres : fn.results = #[.cell a t, .tmp u]) (ha : tmps.getD a undef = .pointer (some ad)) (h1 : aggT P t = true) (h2 : sizeT P t = Enc.n α) (hg : get? α w ad = some x) :
    (results fn tmps).run P w = .ok (.tuple #[.agg (Enc.enc x).toArray, tmps.getD u undef]) w := by
  have hl := run_loadVar_get (P := P) h1 h2 hg
  simp only [Array.getD_eq_getD_getElem?] at ha
  simp [results, hres, ha, asAddr, hl]
theorem results_cell {P : Program} {fn : Func} {α : Type} [Enc α] {a : Tmp} {t : TypeId} {tmps : Array Value} {w : World} {ad : Addr} {x : α} (hres : fn.results = #[.cell a t]) (ha : tmps.getD a undef = .pointer (some ad)) (h1 : aggT P t = true) (h2 : sizeT P t = Enc.n α) (hg : get? α w ad = some x) :
    (results fn tmps).run P w = .ok (.agg (Enc.enc x).toArray) w := by
  have hl := run_loadVar_get (P := P) h1 h2 hg
  simp only [Array.getD_eq_getD_getElem?] at ha
  simp [results, hres, ha, asAddr, hl]
end Go.Proofs.YtfhhcgldikmejaaGreatDoor
/- Where own lists lie. Conditions: those named in each theorem. -/
namespace Go.Gv
open Go
theorem addN (blk off n : Nat) : (⟨blk, off, none⟩ : Addr).add n = ⟨blk, off + n, none⟩ := by
  unfold Addr.add
  by_cases h : n = 0
  · subst h; rfl
  · rw [if_neg h]
end Go.Gv
namespace Go.Proofs.YtfhhcgldikmejaaGreatDoor
open Go Go.RowKit Go.Gv
end Go.Proofs.YtfhhcgldikmejaaGreatDoor
/- Stores into blocks of cells, and what they leave alone. Conditions: those named in each theorem. -/
namespace Go.Proofs.YtfhhcgldikmejaaGreatDoor
open Go Go.RowKit Go.Gv

theorem atPokeV {w : World} {g : Nat} {cs : List Value} (h : At w ⟨g, 0, none⟩ cs) {j : Nat} (hj : j < cs.length) (v : Value) : At (w.setCell ⟨g, j, none⟩ v) ⟨g, 0, none⟩ (cs.set j v) := by
  intro i u hu
  rw [addN, Nat.zero_add]
  have hi : i < cs.length := by have := (List.getElem?_eq_some_iff.1 hu).1; simpa using this
  have hx := h i _ (List.getElem?_eq_getElem hi)
  rw [addN, Nat.zero_add] at hx
  by_cases e : j = i
  · subst e
    rw [World.cell?_setCell_same w _ v hx]
    rw [List.getElem?_set_self hj] at hu; exact hu
  · rw [World.cell?_setCell_other w _ _ v (fun h => e (by injection h)), hx]
    rw [List.getElem?_set_ne e, List.getElem?_eq_getElem hi] at hu; exact hu
theorem atPutSegV {g j : Nat} : ∀ (vs : List Value) (i : Nat) (w : World) (cs : List Value), At w ⟨g, 0, none⟩ cs → j + i + vs.length ≤ cs.length → At (World.putFrom w ⟨g, j, none⟩ i vs) ⟨g, 0, none⟩ (setSeg cs (j + i) vs)
  | [], _, _, _, h, _ => h
  | v :: vs, i, w, cs, h, hl => by
    simp only [List.length_cons] at hl
    unfold World.putFrom setSeg
    rw [addN]
    exact atPutSegV vs (i + 1) _ _ (atPokeV h (by omega) v) (by rw [List.length_set]; omega)
theorem get?_putSegV {α : Type} [Enc α] {w : World} {g j : Nat} {x y : α} {vs : List Value} (h : get? α w ⟨g, 0, none⟩ = some x) (hl : j + vs.length ≤ Enc.n α) (hy : Enc.enc y = setSeg (Enc.enc x) j vs) : get? α (World.putCells w ⟨g, j, none⟩ vs) ⟨g, 0, none⟩ = some y := by
  rw [get?_iff] at h ⊢
  rw [hy]
  unfold World.putCells
  exact atPutSegV vs 0 w _ h (by rw [Enc.len]; omega)
theorem get?_putV {α : Type} [Enc α] {w : World} {b o : Nat} {y : α} (x : α) (h : get? α w ⟨b, o, none⟩ = some y) : get? α (World.putCells w ⟨b, o, none⟩ (Enc.enc x)) ⟨b, o, none⟩ = some x := by
  refine get?_iff.2 fun j v hv => ?_
  have hj : j < (Enc.enc x).length := (List.getElem?_eq_some_iff.1 hv).1
  have hjy : j < (Enc.enc y).length := by rw [Enc.len] at hj ⊢; exact hj
  have hc := (get?_iff.1 h) j _ (List.getElem?_eq_getElem hjy)
  rw [addN] at hc ⊢
  unfold World.putCells
  rw [cell_putFrom rfl _ _ _ _ rfl (by rw [hc]; rfl), if_pos ⟨rfl, by simp, by simp; exact hj⟩]
  simpa using hv
theorem chg_put {S : Nat → Prop} {w : World} {b o : Nat} (hb : S b) (vs : List Value) : Chg S w (World.putCells w ⟨b, o, none⟩ vs) := by
  unfold World.putCells
  have key : ∀ (vs : List Value) (i : Nat) (w1 : World), Chg S w w1 → Chg S w (World.putFrom w1 ⟨b, o, none⟩ i vs) := by
    intro vs
    induction vs with
    | nil => intro i w1 h; exact h
    | cons v vs ih =>
      intro i w1 h
      refine ih _ _ (h.tr ⟨rfl, rfl, rfl, by simp, fun k _ hn => Below.heap_setCell _ _ _ _ (fun e => hn ?_)⟩)
      rw [add_block] at e
      exact e ▸ hb
  exact key vs 0 w (Chg.refl _ _)
theorem chg_cell {S : Nat → Prop} {w : World} {b o : Nat} (hb : S b) (u : Value) : Chg S w (w.setCell ⟨b, o, none⟩ u) :=
  ⟨rfl, rfl, rfl, by simp, fun k _ hn => Below.heap_setCell _ _ _ _ (fun e => hn (e ▸ hb))⟩
theorem chg_new {S : Nat → Prop} {w w' : World} (h : Chg (fun k => S k ∨ w.heap.size ≤ k) w w') : Chg S w w' :=
  ⟨h.os, h.tape, h.output, h.size, fun k hk hn => h.block k hk (by rintro (h1 | h1); exact hn h1; omega)⟩
theorem chg_after {S T : Nat → Prop} {w wx w' : World} (hb : Bel w wx) (h : Chg T wx w') (hT : ∀ k, T k → S k ∨ w.heap.size ≤ k) : Chg S w w' := chg_new ((Chg.of_bel hb _).tr (h.sub hT))
theorem blkFree_put {w : World} {b o n : Nat} (vs : List Value) : blkFree (World.putCells w ⟨b, o, none⟩ vs) n = blkFree w n := by
  unfold World.putCells
  have key : ∀ (vs : List Value) (i : Nat) (w1 : World), blkFree (World.putFrom w1 ⟨b, o, none⟩ i vs) n = blkFree w1 n := by
    intro vs
    induction vs with
    | nil => intro i w1; rfl
    | cons v vs ih => intro i w1; exact (ih _ _).trans (blkFree_setCell _ _ _)
  exact key vs 0 w
theorem get_not_mapV {α : Type} [Enc α] {K V : Type} [DecidableEq K] [KEnc K] [VEnc V] {w : World} {r : Nat} {m : List (K × V)} (hm : mapAt K V w r = some m) {a : Addr} {x : α} (h : get? α w a = some x) : a.block ≠ r := by
  intro e
  obtain ⟨es, c, hb, _⟩ := mapAt_iff.1 hm
  have h0 : (Enc.enc x)[0]? = some ((Enc.enc x)[0]'(by rw [Enc.len]; exact Enc.pos)) := List.getElem?_eq_getElem _
  have := get?_iff.1 h 0 _ h0
  simp [World.cell?, add_block, e, hb] at this
end Go.Proofs.YtfhhcgldikmejaaGreatDoor
/- The book of signatures. Conditions: those named in each theorem. -/
namespace Go.Proofs.YtfhhcgldikmejaaGreatDoor
open Go Go.RowKit Go.Gv Go.Proofs

def strB (ys : List U8) : ByteArray := ⟨(ys.map U8.v).toArray⟩
theorem str_conv {w : World} {B0 : Nat} {B : Option Addr} {n c : Nat} {ys : List U8} (h : Sl U8 w B0 B n ys) : (convert 61 9 (.slice B n c)).run Tryz.prog w = .ok (.string (strB ys)) w := by
  cases B with
  | none =>
    have hn : n = 0 := by
      rcases Nat.eq_zero_or_pos n with h0 | h0
      · exact h0
      · obtain ⟨ad, e, _⟩ := h.2 h0; cases e
    subst hn
    obtain rfl : ys = [] := List.length_eq_zero_iff.1 h.1
    rw [run_convert_bytes_string w _ _ 5 none 0 c (by kernel_rfl) (by kernel_rfl) (by kernel_rfl)]
    rfl
  | some ad =>
    have hl : (ys.map U8.v).length = n := by rw [List.length_map]; exact h.1
    have := run_convert_bytes_back (P := Tryz.prog) w 61 9 5 ad c (ys.map U8.v) (by kernel_rfl) (by kernel_rfl) (by kernel_rfl) (fun j hj => by
      have hj2 : j < n := by rw [← hl]; exact hj
      obtain ⟨ad', x, e, _, hx, hg⟩ := h.at_ (k := j) hj2
      injection e with e
      subst e
      have hc := get1 (α := U8) rfl hg
      rw [show Enc.n U8 = 1 from rfl, Nat.mul_one] at hc
      rw [hc]
      have hxj : (ys.map U8.v)[j] = x.v := by
        have h1 : (ys.map U8.v)[j]? = some x.v := by rw [List.getElem?_map, hx]; rfl
        rw [List.getElem?_eq_getElem hj] at h1
        exact Option.some.inj h1
      rw [hxj]
      rfl)
    rw [hl] at this
    exact this
abbrev MBook := List (GBookSigned × Int)
/-- At block g lies a book over the map in block m. -/
def BookIs (w : World) (g m : Nat) (B : MBook) : Prop := get? GBookBook w ⟨g, 0, none⟩ = some ⟨some m⟩ ∧ mapAt GBookSigned Int w m = some B
section
variable {w w' : World} {g m : Nat} {B : MBook}
theorem BookIs.chg {S : Nat → Prop} (h : BookIs w g m B) (hc : Chg S w w') (hg : ¬ S g) (hm : ¬ S m) : BookIs w' g m B := ⟨hc.get h.1 hg, hc.map h.2 hm⟩
theorem BookIs.step (h : BookIs w g m B) (hb : Bel w w') : BookIs w' g m B := h.chg (S := fun _ => False) (Chg.of_bel hb _) id id
theorem BookIs.ltg (h : BookIs w g m B) : g < w.heap.size := get?_lt h.1
theorem BookIs.ltm (h : BookIs w g m B) : m < w.heap.size := mapAt_lt h.2
end
/-- The mark of a text, when it is signed. -/
def markOf (B : MBook) (k : GBookSigned) : Int := if (mget B k).getD 0 = 0 then (B.length : Int) + 1 else (mget B k).getD 0
def signB (B : MBook) (k : GBookSigned) : MBook := if (mget B k).getD 0 = 0 then mset B k ((B.length : Int) + 1) else B
def rightB (B : MBook) (k : GBookSigned) (mark : Int) : Bool := decide (0 < (mget B k).getD 0) && decide ((mget B k).getD 0 = mark)
set_option maxRecDepth 100000 in
set_option maxHeartbeats 400000 in
theorem newBook_any (w : World) : Calls Tryz.prog 19 #[] w fun e w' => ∃ g m : Nat, e = .returned (.pointer (some ⟨g, 0, none⟩)) ∧ BookIs w' g m [] ∧ w.heap.size ≤ g ∧ w.heap.size ≤ m ∧ Bel w w' := by
  have hmm := @run_makeMap Tryz.prog
  go_enter Tryz.func19, Tryz.ntmps19
  go_wp2
  go_ret
  exact ⟨w.heap.size + 1, w.heap.size, rfl, ⟨nw112 (w.alloc (.map #[] 0)) (w.heap.size + 1) ⟨some w.heap.size⟩ (by simp), mapAt_alloc _ (mapAt_new _ _ w)⟩, by omega, by omega, ((Bel.refl w).alloc _).alloc _⟩
set_option maxRecDepth 100000 in
set_option maxHeartbeats 1000000 in
theorem sign_any (g m : Nat) (B : MBook) (d : Int) (A : Option Addr) (n c : Nat) (ys : List U8) (w : World) (h : BookIs w g m B) (hy : Sl U8 w w.heap.size A n ys) (hl : B.length ≤ 1000000000) :
    Calls Tryz.prog 12 #[.pointer (some ⟨g, 0, none⟩), .int .i64 d, .slice A n c] w fun e w' => e = .returned (GSig.val ⟨d, markOf B ⟨d, strB ys⟩⟩) ∧ BookIs w' g m (signB B ⟨d, strB ys⟩) ∧ Chg (fun k => k = m) w w' := by
  have HH := Lib.hid h
  obtain ⟨hg, hm⟩ := h
  have f0 : w.cell? ⟨g, 0, none⟩ = some (.map (some m)) := cell_zero (GBookBook.at_marks hg)
  have hcv := fun o => str_conv (c := c) (hy.stepB ((Bel.refl w).alloc o))
  obtain ⟨z, hz⟩ : ∃ z, (mget B ⟨d, strB ys⟩).getD 0 = z := ⟨_, rfl⟩
  have HZ := Lib.hid hz
  obtain ⟨s, hs⟩ : ∃ s, strB ys = s := ⟨_, rfl⟩
  rw [hs] at hcv hz HZ ⊢
  clear hy hs
  go_enter Tryz.func12, Tryz.ntmps12
  go_wp2_with fail
  have b6 : get? GSig ((w.alloc (.cells (GSig.enc default).toArray 37)).alloc (.cells (GBookSigned.enc ⟨d, s⟩).toArray 109)) ⟨w.heap.size, 0, none⟩ = some default := get?_alloc _ (get?_new _ _)
  have c6 : blkFree ((w.alloc (.cells (GSig.enc default).toArray 37)).alloc (.cells (GBookSigned.enc ⟨d, s⟩).toArray 109)) w.heap.size = true := by rw [blkFree_past _ _ (by simp)]; exact blkFree_new _ _ rfl
  have b7 : get? GBookSigned ((w.alloc (.cells (GSig.enc default).toArray 37)).alloc (.cells (GBookSigned.enc ⟨d, s⟩).toArray 109)) ⟨w.heap.size + 1, 0, none⟩ = some ⟨d, s⟩ := by
    have := get?_new (w := w.alloc (.cells (GSig.enc default).toArray 37)) 109 (⟨d, s⟩ : GBookSigned)
    rwa [World.size_alloc] at this
  have HB := Lib.hid (((Bel.refl w).alloc (.cells (GSig.enc default).toArray 37)).alloc (.cells (GBookSigned.enc ⟨d, s⟩).toArray 109))
  have hml := HH.out.ltm
  have hgl := HH.out.ltg
  obtain ⟨q, hq⟩ : ∃ q, w.heap.size = q := ⟨_, rfl⟩
  have HQ := Lib.hid hq
  rw [hq] at b6 b7 c6 hml hgl ⊢
  generalize (w.alloc (.cells (GSig.enc default).toArray 37)).alloc (.cells (GBookSigned.enc ⟨d, s⟩).toArray 109) = wx at b6 c6 b7 HB ⊢
  have hX := HH.out.step HB.out
  have fm := hX.2
  have f1 : wx.cell? ⟨g, 0, none⟩ = some (.map (some m)) := cell_zero (GBookBook.at_marks hX.1)
  obtain ⟨nb, hnb⟩ : ∃ nb, B.length = nb := ⟨_, rfl⟩
  have hlen : (Builtin.len_ #[110] 3 #[.map (some m)]).run Tryz.prog wx.drew.drew = .ok (.int .i64 (nb : Int)) wx.drew.drew := by
    rw [Gv.run_len_map kl109 um110 (show mapAt GBookSigned Int wx.drew.drew m = some B from fm) _, hnb]
  have HNB := Lib.hid hnb
  have e1 : IntKind.i64.wrap ((nb : Int) + 1) = (nb : Int) + 1 := IntWalk.i64_in _ (by omega)
  clear hm f0 hcv hg hX hnb hq
  go_region
  have HXB := Lib.hid (HH.out.step HB.out)
  have hqm : q ≠ m := get_not_mapV fm b6
  have hq1 : q + 1 ≠ m := get_not_mapV fm b7
  have hgm : g ≠ m := get_not_mapV fm HXB.out.1
  by_cases h0 : z = 0
  · go_wp2_with fail
    go_region
    have hm2 := mapAt_mput kl109 um110 (show mapAt GBookSigned Int wx.drew.drew m = some B from fm) (⟨d, s⟩ : GBookSigned) ((nb : Int) + 1)
    have hgr : Chg (fun k => k = m) wx (mput Tryz.prog 110 wx.drew.drew m (⟨d, s⟩ : GBookSigned) ((nb : Int) + 1)) :=
      (show Chg (fun k => k = m) wx wx.drew.drew from Chg.of_bel ((Bel.refl wx).drew.drew) _).tr (Chg.of_grown (mput_grown kl109 um110 (show mapAt GBookSigned Int wx.drew.drew m = some B from fm) (⟨d, s⟩ : GBookSigned) ((nb : Int) + 1)) (fun k e => by injection e with e; exact e.symm))
    generalize mput Tryz.prog 110 wx.drew.drew m (⟨d, s⟩ : GBookSigned) ((nb : Int) + 1) = wm at hm2 hgr ⊢
    have k6 := hgr.get b6 hqm
    have k7 := hgr.get b7 hq1
    have kc := hgr.free c6 (get?_lt b6) hqm
    have k1 := hgr.cell f1 hgm
    have hz2 : (mget (mset B (⟨d, s⟩ : GBookSigned) ((nb : Int) + 1)) ⟨d, s⟩).getD 0 = (nb : Int) + 1 := by rw [mget_mset_same]; rfl
    have HM2 := Lib.hid hm2; have HGR := Lib.hid hgr
    clear hgr b6 b7 c6 f1 fm hlen hgm hq1
    go_wp2_with fail
    go_region
    have HG : get? GSig (World.putCells wm ⟨q, 0, none⟩ (GSig.enc ⟨d, (nb : Int) + 1⟩)) ⟨q, 0, none⟩ = some ⟨d, (nb : Int) + 1⟩ := get?_putV _ k6
    have hc2 : Chg (fun k => k = m ∨ k = q) wx (World.putCells wm ⟨q, 0, none⟩ (GSig.enc ⟨d, (nb : Int) + 1⟩)) := (HGR.out.sub fun k e => .inl e).tr (chg_put (.inr rfl) _)
    have hB2 : BookIs (World.putCells wm ⟨q, 0, none⟩ (GSig.enc ⟨d, (nb : Int) + 1⟩)) g m (mset B ⟨d, s⟩ ((nb : Int) + 1)) :=
      ⟨hc2.get HXB.out.1 (fun e => e.elim (fun e => get_not_mapV HXB.out.2 HXB.out.1 e) (fun e => by simp only at e; omega)), (chg_put (S := fun k => k = q) rfl _).map HM2.out (fun e => hqm e.symm)⟩
    go_wp2_with fail
    refine bodyPost_ret (results_cell (x := (⟨d, (nb : Int) + 1⟩ : GSig)) rfl rfl ag37 sz37 (show get? GSig (World.putCells wm ⟨q, 0, none⟩ (GSig.enc ⟨d, (nb : Int) + 1⟩)).drew _ = _ by simp only [get?_drew]; exact HG)) rfl ⟨?_, ?_, ?_⟩
    · rw [show markOf B ⟨d, s⟩ = (nb : Int) + 1 by unfold markOf; rw [HZ.out, if_pos h0, HNB.out], GSig.val_eq]
    · rw [show signB B ⟨d, s⟩ = mset B ⟨d, s⟩ ((nb : Int) + 1) by unfold signB; rw [HZ.out, if_pos h0, HNB.out]]
      exact hB2.step ((Bel.refl _).drew)
    · exact chg_after HB.out (hc2.tr (Chg.of_bel ((Bel.refl _).drew) _)) (by rintro k (e | e); exact .inl e; right; rw [HQ.out]; omega)
  · go_wp2_with fail
    go_region
    have HG : get? GSig (World.putCells wx ⟨q, 0, none⟩ (GSig.enc ⟨d, z⟩)) ⟨q, 0, none⟩ = some ⟨d, z⟩ := get?_putV _ b6
    have hc2 : Chg (fun k => k = q) wx (World.putCells wx ⟨q, 0, none⟩ (GSig.enc ⟨d, z⟩)) := chg_put (S := fun k => k = q) rfl _
    have hB2 : BookIs (World.putCells wx ⟨q, 0, none⟩ (GSig.enc ⟨d, z⟩)) g m B := HXB.out.chg hc2 (by omega) (fun e => hqm e.symm)
    go_wp2_with fail
    refine bodyPost_ret (results_cell (x := (⟨d, z⟩ : GSig)) rfl rfl ag37 sz37 (show get? GSig (World.putCells wx ⟨q, 0, none⟩ (GSig.enc ⟨d, z⟩)).drew.drew _ = _ by simp only [get?_drew]; exact HG)) rfl ⟨?_, ?_, ?_⟩
    · rw [show markOf B ⟨d, s⟩ = z by unfold markOf; rw [HZ.out, if_neg h0], GSig.val_eq]
    · rw [show signB B ⟨d, s⟩ = B by unfold signB; rw [HZ.out, if_neg h0]]
      exact hB2.step ((Bel.refl _).drew.drew)
    · exact chg_after HB.out (hc2.tr (Chg.of_bel ((Bel.refl _).drew.drew) _)) (by rintro k e; right; rw [HQ.out]; omega)
set_option maxRecDepth 100000 in
set_option maxHeartbeats 1000000 in
theorem right_any (g m : Nat) (B : MBook) (x : GSig) (A : Option Addr) (n c : Nat) (ys : List U8) (w : World) (h : BookIs w g m B) (hy : Sl U8 w w.heap.size A n ys) :
    Calls Tryz.prog 103 #[.pointer (some ⟨g, 0, none⟩), x.val, .slice A n c] w fun e w' => e = .returned (.bool (rightB B ⟨x.by_, strB ys⟩ x.mark)) ∧ Bel w w' := by
  have HX := Lib.hid (h.step ((Bel.refl w).alloc (.cells (GSig.enc x).toArray 37)))
  have hg := get?_new (w := w) 37 x
  have HB := Lib.hid ((Bel.refl w).alloc (.cells (GSig.enc x).toArray 37))
  have hcv := str_conv (c := c) (hy.stepB (((Bel.refl w).alloc (.cells (GSig.enc x).toArray 37)).drew))
  obtain ⟨z, hz⟩ : ∃ z, (mget B ⟨x.by_, strB ys⟩).getD 0 = z := ⟨_, rfl⟩
  have HZ := Lib.hid hz
  obtain ⟨s, hs⟩ : ∃ s, strB ys = s := ⟨_, rfl⟩
  rw [hs] at hcv hz HZ ⊢
  clear hy hs h
  go_enter Tryz.func103, Tryz.ntmps103
  go_wp2_with fail
  generalize w.alloc (.cells (GSig.enc x).toArray 37) = wx at HX hg HB hcv ⊢
  obtain ⟨q, hq⟩ : ∃ q, w.heap.size = q := ⟨_, rfl⟩
  rw [hq] at hg ⊢
  have fm := HX.out.2
  have f0 : wx.cell? ⟨g, 0, none⟩ = some (.map (some m)) := cell_zero (GBookBook.at_marks HX.out.1)
  have f1 := cell_zero (GSig.at_by_ hg)
  have f2 : wx.cell? ⟨q, 1, none⟩ = some (.int .i64 x.mark) := cell_off (by omega) (GSig.at_mark hg)
  go_region
  have HBD := Lib.hid HB.out.drew
  clear hcv fm f0 f1
  by_cases h0 : 0 < z
  · go_wp2_with fail
    go_ret
    exact ⟨ret_bool (by unfold rightB; rw [HZ.out, decide_eq_true h0, Bool.true_and, Bool.eq_iff_iff, decide_eq_true_eq]; simp), HBD.out⟩
  · go_wp2_with fail
    go_ret
    exact ⟨ret_bool (by unfold rightB; rw [HZ.out, decide_eq_false (show ¬ 0 < z by omega)]; rfl), HBD.out⟩
end Go.Proofs.YtfhhcgldikmejaaGreatDoor
/- The writer's methods: what they write. Conditions: those named in each theorem. -/
namespace Go.Proofs.YtfhhcgldikmejaaGreatDoor
open Go Go.RowKit Go.Gv Go.Proofs

section
variable {w0 w w' : World} {p : Nat} {bs ys : List U8}
theorem or_bits : ∀ k < 256, bits .or .u8 ((k : Nat) : Int) 128 = ((k % 128 + 128 : Nat) : Int) := by decide +kernel
/-- What an append to a writer does: its run, and the writer behind the header's store. -/
theorem WrIs.app (h : WrIs w0 w p bs) {A : Option Addr} {m c : Nat} (hy : Sl U8 w w.heap.size A m ys) (hl : bs.length + m ≤ 1000000000) :
    ∃ (A0 : Option Addr) (n0 c0 : Nat) (A1 : Option Addr) (n1 c1 : Nat) (w1 : World), w.cell? ⟨p, 0, none⟩ = some (.slice A0 n0 c0) ∧ (gAppend #[61, 61] 61 #[.slice A0 n0 c0, .slice A m c]).run Tryz.prog w = .ok (.slice A1 n1 c1) w1 ∧
      w1.cell? ⟨p, 0, none⟩ = some (.slice A0 n0 c0) ∧ w1.frozen? ⟨p, 0, none⟩ = false ∧ WrDid w0 w p (bs ++ ys) (w1.setCell ⟨p, 0, none⟩ (.slice A1 n1 c1)) := by
  obtain ⟨⟨A0, n0, c0⟩, hg, ho, hne⟩ := h.own
  obtain ⟨v', w1, hrun, ho', hgr, hob⟩ := gAppend_S (P := Tryz.prog) ei61 (t := 61) ho (c := c) hy (by unfold maxLen; omega) (by omega) h.bel.size 61
  have hpl := get?_lt hg
  have hk : w1.heap[p]? = w.heap[p]? := hgr.block p hpl (fun e => hne e.symm)
  have hg1 : get? GCodeWriter w1 ⟨p, 0, none⟩ = some ⟨⟨A0, n0, c0⟩⟩ := (get?_keep hk).trans hg
  obtain ⟨A1, c1, hv, _⟩ := OwnS.ownA ho'
  have hdid := WrIs.put h.bel hg ho hne h.lt h.free ho' hv hgr hob
  subst hv
  exact ⟨A0, n0, c0, A1, _, c1, w1, cell_zero (GCodeWriter.at_b hg), hrun, cell_zero (GCodeWriter.at_b hg1), frozen_of_free (by rw [show blkFree w1 p = blkFree w p from blkFree_keep hk]; exact h.free), hdid⟩
end
theorem sl_byte (w : World) (m : Nat) (hm : m < 256) : Sl U8 (w.alloc (.cells #[.int .u8 m] 5)) (w.alloc (.cells #[.int .u8 m] 5)).heap.size (some ⟨w.heap.size, 0, none⟩) 1 [⟨UInt8.ofNat m⟩] :=
  Sl.new_ (by
    show [Value.int .u8 (m : Int)] = [encU8 (UInt8.ofNat m)]
    unfold encU8
    rw [UInt8.toNat_ofNat']
    congr 2
    omega) rfl rfl (by simp)
set_option maxRecDepth 100000 in
set_option maxHeartbeats 1000000 in
theorem num_any (w0 : World) (p : Nat) (bs : List U8) (n : Nat) (w : World) (h : WrIs w0 w p bs) (hn : n < 18446744073709551616) (hl : bs.length ≤ 900000000) :
    Calls Tryz.prog 191 #[.pointer (some ⟨p, 0, none⟩), .int .u64 n] w fun e w' => e = .returned (.pointer (some ⟨p, 0, none⟩)) ∧ WrDid w0 w p (bs ++ numL n) w' := by
  have HW := Lib.hid h
  clear h
  go_enter Tryz.func191, Tryz.ntmps191
  go_wp2_with fail
  go_loopw [1] (fun iv wr => ∃ (m : Nat) (cs : List U8), iv = .int .u64 m ∧ Hid (WrDid w0 w p cs wr) ∧ cs ++ numL m = bs ++ numL n ∧ m < 18446744073709551616 ∧ cs.length + (numL m).length ≤ 900000010) (fun iv _ => (intOf iv).toNat)
  case atStart => exact ⟨n, bs, rfl, Lib.hid (WrDid.refl HW.out), rfl, hn, by have := numL_le hn; omega⟩
  case round =>
    obtain ⟨m, cs, rfl, hwr, hEq, hm, hcl⟩ := hrel
    have HEQ := Lib.hid hEq
    clear hEq HW
    by_cases hb : m < 128
    · have hb2 : ¬ (128 : Int) ≤ (m : Int) := by omega
      have hst := hwr.out.is.step ((Bel.refl wr).alloc (.cells #[.int .u8 m] 5))
      have e1 : numL m = [⟨UInt8.ofNat m⟩] := numL_small hb
      rw [e1] at hcl
      simp only [List.length_singleton] at hcl
      obtain ⟨A0, n0, c0, A1, n1, c1, w1, f0, hrun, f1, f2, hW1⟩ := hst.app (c := 1) (sl_byte wr m (by omega)) (by omega)
      have f0' : wr.cell? ⟨p, 0, none⟩ = some (.slice A0 n0 c0) := by
        obtain ⟨⟨A1, n1, c1⟩, hg, ho, hne⟩ := hwr.out.is.own
        have h1 := cell_zero (GCodeWriter.at_b hg)
        have h2 := GB.cell (GB.al wr (.cells #[.int .u8 m] 5)) h1
        rw [f0] at h2
        exact h1.trans h2.symm
      have HW1 := Lib.hid (hwr.out.trans (WrDid.bel hwr.out.is ((Bel.refl wr).alloc _) hW1))
      have HE1 := Lib.hid (show cs ++ [⟨UInt8.ofNat m⟩] = bs ++ numL n by rw [← e1]; exact HEQ.out)
      clear hst hW1 f0 hcl e1
      go_wp2_with fail
      go_ret
      exact ⟨rfl, by have := HW1.out; rw [HE1.out] at this; exact this⟩
    · have hb2 : (128 : Int) ≤ (m : Int) := by omega
      have hor : bits .or .u8 ((m : Int) % 256) 128 = ((m % 128 + 128 : Nat) : Int) := by
        have := or_bits (m % 256) (by omega)
        rw [show m % 256 % 128 = m % 128 by omega] at this
        rwa [show ((m % 256 : Nat) : Int) = (m : Int) % 256 by omega] at this
      have hshr : ∃ q, q = m / 128 := ⟨_, rfl⟩
      have hst := hwr.out.is.step ((Bel.refl wr).alloc (.cells #[.int .u8 ((m % 128 + 128 : Nat) : Int)] 5))
      have e1 : numL m = ⟨UInt8.ofNat (m % 128 + 128)⟩ :: numL (m / 128) := numL_big hb
      rw [e1] at hcl
      simp only [List.length_cons] at hcl
      obtain ⟨A0, n0, c0, A1, n1, c1, w1, f0, hrun, f1, f2, hW1⟩ := hst.app (c := 1) (sl_byte wr (m % 128 + 128) (by omega)) (by omega)
      have f0' : wr.cell? ⟨p, 0, none⟩ = some (.slice A0 n0 c0) := by
        obtain ⟨⟨A1, n1, c1⟩, hg, ho, hne⟩ := hwr.out.is.own
        have h1 := cell_zero (GCodeWriter.at_b hg)
        have h2 := GB.cell (GB.al wr (.cells #[.int .u8 ((m % 128 + 128 : Nat) : Int)] 5)) h1
        rw [f0] at h2
        exact h1.trans h2.symm
      have HW1 := Lib.hid (hwr.out.trans (WrDid.bel hwr.out.is ((Bel.refl wr).alloc _) hW1))
      have HE1 := Lib.hid (show (cs ++ [⟨UInt8.ofNat (m % 128 + 128)⟩]) ++ numL (m / 128) = bs ++ numL n by rw [← HEQ.out, e1]; simp)
      obtain ⟨bt, hbt⟩ : ∃ b : Int, ((m % 128 + 128 : Nat) : Int) = b := ⟨_, rfl⟩
      rw [hbt] at hor hrun
      have HCL := Lib.hid hcl
      clear hst hW1 f0 e1 hshr hbt hcl
      go_wp2_with fail
      exact ⟨⟨m / 128, cs ++ [⟨UInt8.ofNat (m % 128 + 128)⟩], by rw [Int.natCast_ediv]; rfl, Lib.hid HW1.out, HE1.out, by omega, by have := HCL.out; rw [List.length_append, List.length_singleton]; omega⟩, by simp [intOf]; omega⟩
set_option maxRecDepth 100000 in
set_option maxHeartbeats 400000 in
theorem int_any (w0 : World) (p : Nat) (bs : List U8) (n : Int) (w : World) (h : WrIs w0 w p bs) (hn : n ≤ 9223372036854775807) (hl : bs.length ≤ 900000000) :
    Calls Tryz.prog 138 #[.pointer (some ⟨p, 0, none⟩), .int .i64 n] w fun e w' => e = .returned (.pointer (some ⟨p, 0, none⟩)) ∧ WrDid w0 w p (bs ++ intL n) w' := by
  have HW := Lib.hid h
  clear h
  by_cases h0 : 0 < n
  · obtain ⟨k, rfl⟩ := Int.eq_ofNat_of_zero_le (show 0 ≤ n by omega)
    have hk0 : 0 < k := by omega
    have HK := Lib.hid (show intL (k : Int) = numL k by unfold intL; congr 1)
    have hw : IntKind.u64.wrap (k : Int) = (k : Int) := IntWalk.u64_in _ (by omega)
    go_enter Tryz.func138, Tryz.ntmps138
    go_wp2_with fail
    refine (num_any w0 p bs k w HW.out (by omega) hl).mono ?_
    rintro _ w1 ⟨rfl, hw1⟩
    have HW1 := Lib.hid hw1
    clear hw1
    go_wp2_with fail
    go_ret
    exact ⟨rfl, by rw [HK.out]; exact HW1.out⟩
  · have HK := Lib.hid (show intL n = numL 0 by unfold intL; congr 1; omega)
    go_enter Tryz.func138, Tryz.ntmps138
    go_wp2_with fail
    refine (num_any w0 p bs 0 w HW.out (by omega) hl).mono ?_
    rintro _ w1 ⟨rfl, hw1⟩
    have HW1 := Lib.hid hw1
    clear hw1
    go_wp2_with fail
    go_ret
    exact ⟨rfl, by rw [HK.out]; exact HW1.out⟩
/-- A slice that is none of the writer's blocks stands behind what the writer does. -/
theorem WrDid.sl {α : Type} [Enc α] {w0 w w' : World} {p : Nat} {ys : List U8} {A : Option Addr} {n : Nat} {xs : List α} (h : WrDid w0 w p ys w') (hs : Sl α w w.heap.size A n xs) (hA : ∀ ad, A = some ad → ¬ wrFoot w p ad.block) : Sl α w' w'.heap.size A n xs :=
  Sl.chg h.chg hs (fun _ ad e => hA ad e)
set_option maxRecDepth 100000 in
set_option maxHeartbeats 400000 in
theorem row_any (w0 : World) (p : Nat) (bs : List U8) (A : Option Addr) (n c : Nat) (ys : List U8) (w : World) (h : WrIs w0 w p bs) (hy : Sl U8 w w.heap.size A n ys) (hA : ∀ ad, A = some ad → ¬ wrFoot w p ad.block) (hn : n ≤ 1000000) (hl : bs.length ≤ 800000000) :
    Calls Tryz.prog 190 #[.pointer (some ⟨p, 0, none⟩), .slice A n c] w fun e w' => e = .returned (.pointer (some ⟨p, 0, none⟩)) ∧ WrDid w0 w p (bs ++ rowL ys) w' := by
  have HW := Lib.hid h; have HY := Lib.hid hy; have HA := Lib.hid hA
  have hyl := hy.1
  clear h hy hA
  go_enter Tryz.func190, Tryz.ntmps190
  go_wp2_with fail
  refine (int_any w0 p bs n w HW.out (by omega) (by omega)).mono ?_
  rintro _ w1 ⟨rfl, hw1⟩
  have hil : (intL (n : Int)).length ≤ 10 := intL_le (by omega)
  obtain ⟨A0, n0, c0, A1, n1, c1, w2, f0, hrun, f1, f2, hW2⟩ := hw1.is.app (c := c) (hw1.sl HY.out HA.out) (by rw [List.length_append]; omega)
  have HD := Lib.hid (hw1.trans hW2)
  have HR := Lib.hid (show bs ++ intL (n : Int) ++ ys = bs ++ rowL ys by unfold rowL; rw [hyl]; simp)
  clear hw1 hW2 hil hyl
  go_wp2_with fail
  go_ret
  exact ⟨rfl, by rw [← HR.out]; exact HD.out⟩
set_option maxRecDepth 100000 in
set_option maxHeartbeats 400000 in
theorem hash_any (w0 : World) (p : Nat) (bs : List U8) (x : GHash) (w : World) (h : WrIs w0 w p bs) (hl : bs.length ≤ 800000000) :
    Calls Tryz.prog 157 #[.pointer (some ⟨p, 0, none⟩), x.val] w fun e w' => e = .returned (.pointer (some ⟨p, 0, none⟩)) ∧ WrDid w0 w p (bs ++ hashL x) w' := by
  have HW := Lib.hid h
  have hg := get?_new (w := w) 35 x
  have hs : Sl U8 (w.alloc (.cells (GHash.enc x).toArray 35)) (w.alloc (.cells (GHash.enc x).toArray 35)).heap.size (some ⟨w.heap.size, 0, none⟩) 32 (hashL x) :=
    Sl.new_ (by
      show x.l.map encU8 = (hashL x).flatMap Enc.enc
      unfold hashL
      induction x.l with
      | nil => rfl
      | cons a l ih => rw [List.map_cons, List.map_cons, List.flatMap_cons, ih]; rfl) (hashL_len x) rfl (by simp)
  have hst := h.step ((Bel.refl w).alloc (.cells (GHash.enc x).toArray 35)).drew
  obtain ⟨A0, n0, c0, A1, n1, c1, w2, f0, hrun, f1, f2, hW2⟩ := hst.app (c := 32) hs.drew_ (by omega)
  have HD := Lib.hid (WrDid.bel h ((Bel.refl w).alloc _).drew hW2)
  clear hst hW2 hs hg h
  go_enter Tryz.func157, Tryz.ntmps157
  go_wp2_with fail
  go_region
  go_wp2_with fail
  go_ret
  exact ⟨rfl, HD.out⟩
set_option maxRecDepth 100000 in
set_option maxHeartbeats 400000 in
theorem newWriter_any (w0 w : World) (hb : Bel w0 w) : Calls Tryz.prog 158 #[] w fun e w' => ∃ p : Nat, e = .returned (.pointer (some ⟨p, 0, none⟩)) ∧ w.heap.size ≤ p ∧ WrIs w0 w' p [] ∧ Bel w w' ∧ (∀ k, wrFoot w' p k → w.heap.size ≤ k) := by
  have hz := hb.size
  have hg := get?_new (w := w) 350 (default : GCodeWriter)
  go_enter Tryz.func158, Tryz.ntmps158
  go_wp2_with fail
  go_ret
  refine ⟨_, rfl, Nat.le_refl _, ⟨hb.alloc _, ⟨⟨none, 0, 0⟩, hg, OwnS.nil _ _ _, by intro e; cases e⟩, hz, blkFree_new _ _ rfl⟩, (Bel.refl w).alloc _, ?_⟩
  rintro k (rfl | ⟨hd, h1, h2⟩)
  · exact Nat.le_refl _
  · have h1 := Option.some.inj (hg.symm.trans h1)
    rw [show hd = (default : GCodeWriter).b by rw [h1]] at h2
    cases h2
set_option maxRecDepth 100000 in
set_option maxHeartbeats 400000 in
theorem bytes_any (w0 : World) (p : Nat) (bs : List U8) (w : World) (h : WrIs w0 w p bs) (hl : bs.length ≤ 800000000) :
    Calls Tryz.prog 139 #[.pointer (some ⟨p, 0, none⟩)] w fun e w' => ∃ (A : Option Addr) (c : Nat), e = .returned (.slice A bs.length c) ∧ Sl U8 w' w'.heap.size A bs.length bs ∧ Bel w w' ∧ (∀ ad, A = some ad → w.heap.size ≤ ad.block) := by
  obtain ⟨⟨A0, n0, c0⟩, hg, ho, hne⟩ := h.own
  obtain ⟨A1, c1, hv, hA⟩ := OwnS.ownA ho
  have f0 : w.cell? ⟨p, 0, none⟩ = some (.slice A0 n0 c0) := cell_zero (GCodeWriter.at_b hg)
  have hv2 : Value.slice A0 n0 c0 = .slice A1 bs.length c1 := hv
  injection hv2 with e1 e2 e3
  obtain ⟨A2, c2, hs2, hsl, _⟩ := OwnS.shape ho
  have hs2' : Value.slice A0 n0 c0 = .slice A2 bs.length c2 := hs2
  injection hs2' with e4 e5 e6
  rw [← e4, ← e5] at hsl
  obtain ⟨v', w1, hrun, ho', hgr, hob⟩ := gAppend_S (P := Tryz.prog) ei61 (t := 61) (OwnS.nil (α := U8) w w.heap.size 5) (c := c0) hsl (by unfold maxLen; simp; omega) (by simp; omega) (Nat.le_refl _) 61
  obtain ⟨A3, c3, hv3, hsl3, _, _, hbl⟩ := OwnS.shape ho'
  have HS := Lib.hid (show Sl U8 w1 w1.heap.size A3 bs.length bs by simpa using hsl3)
  have HB := Lib.hid (show Bel w w1 from Below.grown (Bel.refl w) hgr (Nat.le_refl _) (fun k hk => by cases hk))
  have HN := Lib.hid (show ∀ ad, A3 = some ad → w.heap.size ≤ ad.block from fun ad e => (hbl ad e).1)
  rw [hv3] at hrun
  simp only [List.nil_append] at hrun
  clear hsl hgr hob ho' hv3 hsl3 hbl hs2 hv hg ho hne e1 e2 e3 e4 e5 e6 hA h
  go_enter Tryz.func139, Tryz.ntmps139
  go_wp2_with fail
  go_ret
  exact ⟨A3, c3, rfl, HS.out, HB.out, HN.out⟩
end Go.Proofs.YtfhhcgldikmejaaGreatDoor
/- Regions that leave their order open, where a call may come ahead of what looks behind it. Conditions: those named in each theorem. -/
namespace Go.Gv
open Go Go.RowKit

/-! G w w': what what looks may do; G2 w w': what any operation of the region may do: what looks sees the same behind it. -/
section
variable {P : Program} {ops : Array Oper} {md : Region.Mode} {Q : Exit → Act → World → Prop} {G G2 : World → World → Prop} {T U : List Nat}
def YieldsH (P : Program) (ops : Array Oper) (G G2 : World → World → Prop) (w : World) (o : Oper) (v : Value) (a : Act) : Prop :=
  (Region.wanted o (yielded ops a.tmps) = true ∧ ∀ w', G2 w w' → lookUponG P G w' v ((execOp a.eval o).run P w')) ∨ (Region.wanted o (yielded ops a.tmps) = false ∧ v = undef)
theorem YieldsH.of_same {w : World} {o : Oper} {v : Value} {a a' : Act} (hy : YieldsH P ops G G2 w o v a) (he : execOp a'.eval o = execOp a.eval o)
    (hw : Region.wanted o (yielded ops a'.tmps) = Region.wanted o (yielded ops a.tmps)) : YieldsH P ops G G2 w o v a' := by
  unfold YieldsH at *
  rw [he, hw]
  exact hy
theorem YieldsH.ext (ht : ∀ a b c, G2 a b → G2 b c → G2 a c) {w w1 : World} {o : Oper} {v : Value} {a : Act} (hy : YieldsH P ops G G2 w o v a) (h : G2 w w1) : YieldsH P ops G G2 w1 o v a := by
  rcases hy with ⟨h1, h2⟩ | h
  · exact .inl ⟨h1, fun w' hw' => h2 w' (ht _ _ _ h hw')⟩
  · exact .inr h
theorem YieldsH.wpOp (hrf : ∀ a, G a a) {i : Nat} {o : Oper} {v : Value} {a : Act} {w w' : World} {K : Act → World → Prop} (hi : ops[i]? = some o) (hy : YieldsH P ops G G2 w o v a) (hw' : G2 w w') (h : ∀ w'', G w' w'' → K (a.put o.dst v) w'') : wpOp P ops Q i K a w' := by
  unfold Go.wpOp
  simp only [hi]
  rcases hy with ⟨hw, hv⟩ | ⟨hw, rfl⟩
  · simp only [hw, if_true]
    refine .inl ?_
    have hz := hv w' hw'
    unfold Oper.wp
    generalize (execOp a.eval o).run P w' = r at hz
    cases r with
    | ok n w1 =>
      cases n <;> simp only [lookUponG] at hz <;> simp only [Oper.upon]
      case value u => obtain ⟨rfl, rfl⟩ := hz; exact h _ (hrf _)
      case skip => obtain ⟨rfl, rfl⟩ := hz; exact h _ (hrf _)
      case enter f args =>
        obtain ⟨rfl, hc⟩ := hz
        refine hc.mono fun e w'' ⟨he, hm⟩ => ?_
        subst he; exact h _ hm
    | halt x w1 => simp only [lookUponG] at hz
  · simp only [hw, Bool.false_eq_true, if_false]; exact h _ (hrf _)
theorem wpOp_putH {j : Nat} {oi oj : Oper} {v : Value} {w w0 : World} (hj : ops[j]? = some oj) (hap : oi.apart ops oj = true)
    (hsi : ∀ cs b, oi.op ≠ .select cs b) (hsj : ∀ cs b, oj.op ≠ .select cs b)
    (hQ : ∀ c a w, Q (.panic c) (a.put oi.dst v) w → Q (.panic c) a w) {K : Act → World → Prop} {a : Act}
    (hy : YieldsH P ops G G2 w0 oi v a) (h : wpOp P ops Q j K (a.put oi.dst v) w) :
    wpOp P ops Q j (fun a' w' => YieldsH P ops G G2 w0 oi v a' ∧ K (a'.put oi.dst v) w') a w := by
  obtain ⟨h1, h2, h3⟩ := Oper.apart_spec hap
  have keep : ∀ (a : Act), YieldsH P ops G G2 w0 oi v a → ∀ u, YieldsH P ops G G2 w0 oi v (a.put oj.dst u) := fun a hy u =>
    hy.of_same (execOp_put oi hsi a oj.dst u h3) (wanted_put oi a oj.dst u h3)
  have keepD : ∀ d, YieldsH P ops G G2 w0 oi v { a with defers := d :: a.defers } := fun d => hy.of_same rfl rfl
  unfold Go.wpOp at *
  simp only [hj] at *
  rw [wanted_put oj a oi.dst v h1] at h
  split
  · rename_i hw
    simp only [hw, if_true] at h
    rcases h with h | ⟨hasks, hlets⟩
    case inr => exact .inr ⟨by unfold Oper.asks at *; rw [execOp_put oj hsj a oi.dst v h1] at hasks; exact hasks, hlets⟩
    refine .inl ?_
    unfold Oper.wp at *
    rw [execOp_put oj hsj a oi.dst v h1] at h
    generalize (execOp a.eval oj).run P w = r at *
    cases r with
    | ok n w' =>
      cases n <;> simp only [Oper.upon] at h ⊢
      case value u => exact ⟨keep a hy u, by rw [← Act.put_comm a v u h2]; exact h⟩
      case skip => exact ⟨keep a hy _, by rw [← Act.put_comm a v undef h2]; exact h⟩
      case defer d =>
        refine ⟨keep _ (keepD d) _, ?_⟩
        rw [← Act.put_comm _ v undef h2, ← Act.put_defers]
        exact h
      case enter f args =>
        refine Calls.mono h fun e w'' he => ?_
        cases e with
        | returned u => exact ⟨keep a hy u, by rw [← Act.put_comm a v u h2]; exact he⟩
        | panicked c => exact hQ _ _ _ he
        | outgrown => exact he
      case row row args => exact Rows.mono h fun u w'' he => ⟨keep a hy u, by rw [← Act.put_comm a v u h2]; exact he⟩
    | halt x w' =>
      cases x <;> simp only [Oper.upon] at h ⊢
      case panic u => exact hQ _ _ _ h
  · rename_i hw
    simp only [hw] at h
    exact ⟨keep a hy _, by rw [← Act.put_comm a v undef h2]; exact h⟩

/-- Whatever order is picked from here on. -/
def wpH (P : Program) (md : Region.Mode) (ops : Array Oper) (Q : Exit → Act → World → Prop) (G G2 : World → World → Prop) (T U : List Nat) : Nat → Array Bool → Act → World → Prop
  | 0, listed, a, w => Region.ready md ops listed = [] ∧ ∀ w', G w w' → Q .normal a w'
  | fuel + 1, listed, a, w =>
    (Region.ready md ops listed = [] → ∀ w', G w w' → Q .normal a w') ∧
    ∀ i ∈ Region.ready md ops listed, ∀ w', G w w' → wpOp P ops Q i (fun a' w'' => (i ∉ T → G w' w'') ∧ (i ∉ U → G2 w' w'') ∧ wpH P md ops Q G G2 T U fuel (listed.setIfInBounds i true) a' w'') a w'
theorem wpH_ext (ht : ∀ a b c, G a b → G b c → G a c) {fuel : Nat} {listed : Array Bool} {a : Act} {w w1 : World} (h : wpH P md ops Q G G2 T U fuel listed a w) (h1 : G w w1) : wpH P md ops Q G G2 T U fuel listed a w1 := by
  cases fuel with
  | zero => exact ⟨h.1, fun w' hw' => h.2 _ (ht _ _ _ h1 hw')⟩
  | succ f => exact ⟨fun h0 w' hw' => h.1 h0 _ (ht _ _ _ h1 hw'), fun i hi w' hw' => h.2 i hi _ (ht _ _ _ h1 hw')⟩
theorem wpAny_of_H (hrf : ∀ a, G a a) : ∀ (fuel : Nat) (listed : Array Bool) (a : Act) (w : World), wpH P md ops Q G G2 T U fuel listed a w → wpAny P md ops Q fuel listed a w
  | 0, _, _, _, h => ⟨h.1, h.2 _ (hrf _)⟩
  | fuel + 1, _, _, _, h => ⟨fun h0 => h.1 h0 _ (hrf _), fun i hi => wpOp_mono (fun a' w' h' => wpAny_of_H hrf fuel _ a' w' h'.2.2) (h.2 i hi _ (hrf _))⟩

theorem wpH_first {i : Nat} {oi : Oper} {v : Value} (hrf : ∀ a, G a a) (ht : ∀ a b c, G a b → G b c → G a c) (ht2 : ∀ a b c, G2 a b → G2 b c → G2 a c) (hsub : ∀ a b, G a b → G2 a b) (hi : ops[i]? = some oi) (hsel : ∀ (j : Nat) (o : Oper) cs b, ops[j]? = some o → o.op ≠ .select cs b)
    (hQ : ∀ c (a a' : Act) w, a.defers = a'.defers → Q (.panic c) a w → Q (.panic c) a' w) (n : Nat) (hU : ∀ t ∈ U, i ∈ waitsFor md ops n t) :
    ∀ (fuel : Nat) (listed : Array Bool) (a : Act) (w : World), downC md ops listed →
      (∀ j oj, ops[j]? = some oj → j ≠ i → listed.getD j true = false → (∀ e ∈ oj.after, Region.binds md e = true → e.on ≠ i) → oi.apart ops oj = true) →
      i ∈ Region.ready md ops listed → YieldsH P ops G G2 w oi v a →
      wpH P md ops Q G G2 T U fuel (listed.setIfInBounds i true) (a.put oi.dst v) w → wpH P md ops Q G G2 T U (fuel + 1) listed a w := by
  intro fuel
  induction fuel with
  | zero =>
    intro listed a w hdc _ hr hy H
    refine ⟨fun h => (by rw [h] at hr; cases hr), fun j hj w' hw' => ?_⟩
    by_cases hji : j = i
    · subst hji
      exact hy.wpOp hrf hi (hsub _ _ hw') fun w'' hw'' => ⟨fun _ => hw'', fun _ => hsub _ _ hw'', wpH_ext ht H (ht _ _ _ hw' hw'')⟩
    · have := ready_mono hj hji
      rw [H.1] at this
      cases this
  | succ fuel ih =>
    intro listed a w hdc hfree hr hy H
    refine ⟨fun h => (by rw [h] at hr; cases hr), fun j hj w' hw' => ?_⟩
    by_cases hji : j = i
    · subst hji
      exact hy.wpOp hrf hi (hsub _ _ hw') fun w'' hw'' => ⟨fun _ => hw'', fun _ => hsub _ _ hw'', wpH_ext ht H (ht _ _ _ hw' hw'')⟩
    · have h1 := H.2 j (ready_mono hj hji) w' hw'
      obtain ⟨hjun, oj, hoj, hall⟩ := mem_ready.1 hj
      have hun : listed.getD i true = false := (mem_ready.1 hr).1
      have hun2 : listed.getD i false = false := by
        rcases Nat.lt_or_ge i listed.size with h' | h'
        · simpa [h'] using hun
        · simp [Array.getElem?_eq_none h'] at hun
      have hnot : ∀ e ∈ oj.after, Region.binds md e = true → e.on ≠ i := fun e he hb heq => by
        have h1 := hall e he hb
        rw [heq, hun2] at h1; cases h1
      have hjU : j ∉ U := fun hjt => by
        have := ready_waits hdc hj (hU j hjt)
        rw [hun2] at this; cases this
      have h2 := wpOp_putH (G := G) (G2 := G2) hoj (hfree j oj hoj hji hjun hnot) (fun cs b => hsel i oi cs b hi) (fun cs b => hsel j oj cs b hoj) (fun c a w h => hQ c _ _ w (by cases oi.dst <;> rfl) h) (hy.ext ht2 (hsub _ _ hw')) h1
      have hfree' : ∀ k ok, ops[k]? = some ok → k ≠ i → (listed.setIfInBounds j true).getD k true = false →
          (∀ e ∈ ok.after, Region.binds md e = true → e.on ≠ i) → oi.apart ops ok = true := fun k ok hk hki hun hno => by
        refine hfree k ok hk hki ?_ hno
        by_cases hjk : j = k
        · subst hjk; exact hjun
        · rw [getD_set_ne true hjk] at hun; exact hun
      refine wpOp_mono (fun a' w'' h3 => ⟨h3.2.1, h3.2.2.1, ?_⟩) h2
      obtain ⟨hy', _, hG2, h4⟩ := h3
      refine ih (listed.setIfInBounds j true) a' w'' (downC_set hdc hj) hfree' (ready_mono hr (Ne.symm hji)) (hy'.ext ht2 (hG2 hjU)) ?_
      rw [Array.setIfInBounds_comm _ _ hji]
      exact h4

def permE (md : Region.Mode) (ops : Array Oper) (U : List Nat) (m : Nat) : List Nat → Array Bool → Bool
  | [], _ => true
  | i :: hd, listed => (Region.ready md ops listed).contains i && Region.free md ops listed i && (U.all fun t => (waitsFor md ops m t).contains i) && permE md ops U m hd (listed.setIfInBounds i true)
theorem wpH_looks_aux {ι : Type} {W : ι → World} (hrf : ∀ a, G a a) (ht : ∀ a b c, G a b → G b c → G a c) (ht2 : ∀ a b c, G2 a b → G2 b c → G2 a c) (hsub : ∀ a b, G a b → G2 a b) (hs : Region.noSelect ops = true) (hQ : ∀ c (a a' : Act) w, a.defers = a'.defers → Q (.panic c) a w → Q (.panic c) a' w) (m fuel : Nat) (w : World) (hW : ∀ w', G2 w w' → ∃ z, w' = W z) :
    ∀ (hd : List Nat) (lh : List Oper) (listed : Array Bool) (a : Act), hd.mapM (fun i => ops[i]?) = some lh → downC md ops listed → permE md ops U m hd listed = true →
    wpLooksG P ops G W (fun a' => wpH P md ops Q G G2 T U fuel (setAll listed hd) a' w) lh a → wpH P md ops Q G G2 T U (hd.length + fuel) listed a w
  | [], lh, listed, a, hl, _, _, h => by
    simp at hl; subst hl
    have e : ([] : List Nat).length + fuel = fuel := by simp
    rw [e]; exact h
  | i :: hd, lh, listed, a, hl, hdc, hB, h => by
    simp only [List.mapM_cons, Option.bind_eq_bind, Option.pure_def] at hl
    cases hi : ops[i]? with
    | none => simp [hi] at hl
    | some o =>
      cases hr : hd.mapM (fun i => ops[i]?) with
      | none => simp [hi, hr] at hl
      | some l' =>
        simp [hi, hr] at hl
        subst hl
        simp only [permE, Bool.and_eq_true, List.all_eq_true, List.contains_iff_mem] at hB
        obtain ⟨⟨⟨hB1, hB2⟩, hB3⟩, hB4⟩ := hB
        rw [show (i :: hd).length + fuel = (hd.length + fuel) + 1 by simp; omega]
        unfold wpLooksG at h
        split at h
        · rename_i hw
          obtain ⟨v, hv, hk⟩ := h
          exact wpH_first hrf ht ht2 hsub hi (Region.noSelect_spec hs) hQ m hB3 _ listed a w hdc (Region.free_spec hi hB2) hB1 (.inl ⟨hw, fun w' hw' => by
            obtain ⟨z, rfl⟩ := hW w' hw'
            exact hv z⟩) (wpH_looks_aux hrf ht ht2 hsub hs hQ m fuel w hW hd l' _ _ hr (downC_set hdc hB1) hB4 hk)
        · rename_i hw
          exact wpH_first hrf ht ht2 hsub hi (Region.noSelect_spec hs) hQ m hB3 _ listed a w hdc (Region.free_spec hi hB2) hB1 (.inr ⟨by simpa using hw, rfl⟩) (wpH_looks_aux hrf ht ht2 hsub hs hQ m fuel w hW hd l' _ _ hr (downC_set hdc hB1) hB4 h)
/-- What looks comes first; W z: the worlds in which it may look. -/
theorem wpH_looks {l : List Oper} {n : Nat} {lh : List Oper} {listed : Array Bool} {a : Act} {w : World} (fuel m : Nat) (hd : List Nat) (hn : n = hd.length + fuel) (hrf : ∀ a, G a a) (ht : ∀ a b c, G a b → G b c → G a c) (hrf2 : ∀ a, G2 a a) (ht2 : ∀ a b c, G2 a b → G2 b c → G2 a c) (hsub : ∀ a b, G a b → G2 a b) (hs : Region.noSelect l.toArray = true) (hQ : ∀ c (a a' : Act) w, a.defers = a'.defers → Q (.panic c) a w → Q (.panic c) a' w)
    (hl : picks l hd = some lh) (hB : (downB md l.toArray listed && permE md l.toArray U m hd listed) = true)
    (h : ∀ (ι : Type) (W : ι → World), Nonempty ι → Hid (∀ z, G2 w (W z)) → wpLooksG P l.toArray G W (fun a' => wpH P md l.toArray Q G G2 T U fuel (setAll listed hd) a' w) lh a) : wpH P md l.toArray Q G G2 T U n listed a w := by
  subst hn
  rw [Bool.and_eq_true] at hB
  obtain ⟨ι, W, hne, hW, hWs⟩ := classFam (G2 w) (hrf2 w)
  exact wpH_looks_aux hrf ht ht2 hsub hs hQ m fuel w hWs hd lh listed a (picks_eq l hd lh hl) (downB_spec hB.1) hB.2 (h ι W hne (Lib.hid hW))
/-- One operation alone is ready. -/
theorem wpH_force {l : List Oper} {fuel : Nat} {listed : Array Bool} {a : Act} {w : World} (t : Nat) (o : Oper) (ho : nthO l t = some o) (hr : (Region.ready md l.toArray listed == [t]) = true) (hg : o.guard = none)
    (h : ∀ w', G w w' → ∀ K : Act → World → Prop, (∀ a' w'', (t ∉ T → G w' w'') → (t ∉ U → G2 w' w'') → wpH P md l.toArray Q G G2 T U fuel (listed.setIfInBounds t true) a' w'' → K a' w'') → o.wp P a w' K Q) : wpH P md l.toArray Q G G2 T U (fuel + 1) listed a w := by
  have ho : l.toArray[t]? = some o := by rw [← ho, nthO_eq]; simp
  have hr' : Region.ready md l.toArray listed = [t] := by simpa using hr
  refine ⟨fun h0 => (by rw [hr'] at h0; cases h0), fun i hi w' hw' => ?_⟩
  rw [hr'] at hi
  obtain rfl : i = t := by simpa using hi
  unfold Go.wpOp
  simp only [ho]
  rw [if_pos (by simp [Region.wanted, hg])]
  exact .inl (h w' hw' _ fun a' w'' h1 h2 h3 => ⟨h1, h2, h3⟩)
theorem wpH_end {listed : Array Bool} {a : Act} {w : World} (hr : (Region.ready md ops listed).isEmpty = true) (h : ∀ w', G w w' → Q .normal a w') : ∀ fuel, wpH P md ops Q G G2 T U fuel listed a w
  | 0 => ⟨by simpa using hr, h⟩
  | _ + 1 => ⟨fun _ => h, fun i hi => by
      have : Region.ready md ops listed = [] := by simpa using hr
      rw [this] at hi; cases hi⟩
/-- Two operations are ready. -/
theorem wpH_two {l : List Oper} {fuel : Nat} {listed : Array Bool} {a : Act} {w : World} (t1 t2 : Nat) (o1 o2 : Oper) (ho1 : nthO l t1 = some o1) (ho2 : nthO l t2 = some o2) (hr : (Region.ready md l.toArray listed == [t1, t2]) = true) (hg1 : o1.guard = none) (hg2 : o2.guard = none)
    (h1 : ∀ w', G w w' → ∀ K : Act → World → Prop, (∀ a' w'', (t1 ∉ T → G w' w'') → (t1 ∉ U → G2 w' w'') → wpH P md l.toArray Q G G2 T U fuel (listed.setIfInBounds t1 true) a' w'' → K a' w'') → o1.wp P a w' K Q)
    (h2 : ∀ w', G w w' → ∀ K : Act → World → Prop, (∀ a' w'', (t2 ∉ T → G w' w'') → (t2 ∉ U → G2 w' w'') → wpH P md l.toArray Q G G2 T U fuel (listed.setIfInBounds t2 true) a' w'' → K a' w'') → o2.wp P a w' K Q) : wpH P md l.toArray Q G G2 T U (fuel + 1) listed a w := by
  have ho1 : l.toArray[t1]? = some o1 := by rw [← ho1, nthO_eq]; simp
  have ho2 : l.toArray[t2]? = some o2 := by rw [← ho2, nthO_eq]; simp
  have hr' : Region.ready md l.toArray listed = [t1, t2] := by simpa using hr
  refine ⟨fun h0 => (by rw [hr'] at h0; cases h0), fun i hi w' hw' => ?_⟩
  rw [hr'] at hi
  simp only [List.mem_cons, List.not_mem_nil, or_false] at hi
  unfold Go.wpOp
  rcases hi with rfl | rfl
  · simp only [ho1]
    rw [if_pos (by simp [Region.wanted, hg1])]
    exact .inl (h1 w' hw' _ fun a' w'' k1 k2 k3 => ⟨k1, k2, k3⟩)
  · simp only [ho2]
    rw [if_pos (by simp [Region.wanted, hg2])]
    exact .inl (h2 w' hw' _ fun a' w'' k1 k2 k3 => ⟨k1, k2, k3⟩)
theorem wp_region_H {id : Nat} {a : Act} {w : World} {l : List Oper} (G G2 : World → World → Prop) (T U : List Nat) (hrf : ∀ a, G a a) (hm : P.follows .mixedOrders = true)
    (h : wpH P .any l.toArray Q G G2 T U l.toArray.size (Array.replicate l.toArray.size false) a w.drew) : (Code.region id l.toArray true).wp P Q a w :=
  wp_region_any hm (wpAny_of_H hrf _ _ _ _ h)
end
/-- What was there below B stands. -/
def GZ (B : Nat) (a b : World) : Prop := B ≤ a.heap.size → Below B a b
end Go.Gv
