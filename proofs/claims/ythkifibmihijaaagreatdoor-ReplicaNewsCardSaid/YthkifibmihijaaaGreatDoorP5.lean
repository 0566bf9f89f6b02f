/- The struct types of this seat as Lean types, with the runs of single operations over them. Conditions: those named in each theorem. -/
import Derived.Test.YthkifibmihijaaaGreatDoorP4
/- The struct types of this seat as Lean types, with the runs of single operations over them. Conditions: those named in each theorem. -/
namespace Go.Proofs.YthkifibmihijaaaGreatDoor
open Go Go.RowKit Go.Gv
set_option linter.unusedSimpArgs false

theorem na24 : aggT Tryz.prog 24 = false := by kernel_rfl
theorem us24 : (Tryz.prog.underlying 24).isSome = true := by kernel_rfl
theorem na32 : aggT Tryz.prog 32 = false := by kernel_rfl
theorem us32 : (Tryz.prog.underlying 32).isSome = true := by kernel_rfl
theorem na79 : aggT Tryz.prog 79 = false := by kernel_rfl
theorem us79 : (Tryz.prog.underlying 79).isSome = true := by kernel_rfl
theorem na88 : aggT Tryz.prog 88 = false := by kernel_rfl
theorem us88 : (Tryz.prog.underlying 88).isSome = true := by kernel_rfl
theorem na91 : aggT Tryz.prog 91 = false := by kernel_rfl
theorem us91 : (Tryz.prog.underlying 91).isSome = true := by kernel_rfl
theorem na94 : aggT Tryz.prog 94 = false := by kernel_rfl
theorem us94 : (Tryz.prog.underlying 94).isSome = true := by kernel_rfl
theorem na97 : aggT Tryz.prog 97 = false := by kernel_rfl
theorem us97 : (Tryz.prog.underlying 97).isSome = true := by kernel_rfl
theorem na99 : aggT Tryz.prog 99 = false := by kernel_rfl
theorem us99 : (Tryz.prog.underlying 99).isSome = true := by kernel_rfl
theorem na100 : aggT Tryz.prog 100 = false := by kernel_rfl
theorem us100 : (Tryz.prog.underlying 100).isSome = true := by kernel_rfl
theorem na101 : aggT Tryz.prog 101 = false := by kernel_rfl
theorem us101 : (Tryz.prog.underlying 101).isSome = true := by kernel_rfl
theorem na109 : aggT Tryz.prog 109 = false := by kernel_rfl
theorem us109 : (Tryz.prog.underlying 109).isSome = true := by kernel_rfl
theorem na110 : aggT Tryz.prog 110 = false := by kernel_rfl
theorem us110 : (Tryz.prog.underlying 110).isSome = true := by kernel_rfl
theorem na111 : aggT Tryz.prog 111 = false := by kernel_rfl
theorem us111 : (Tryz.prog.underlying 111).isSome = true := by kernel_rfl
theorem na112 : aggT Tryz.prog 112 = false := by kernel_rfl
theorem us112 : (Tryz.prog.underlying 112).isSome = true := by kernel_rfl
theorem na113 : aggT Tryz.prog 113 = false := by kernel_rfl
theorem us113 : (Tryz.prog.underlying 113).isSome = true := by kernel_rfl
theorem na114 : aggT Tryz.prog 114 = false := by kernel_rfl
theorem us114 : (Tryz.prog.underlying 114).isSome = true := by kernel_rfl

/-! ### gavel/replica.Event -/
structure GReplicaEvent where
  ticks : Int
  msg : GMsg
deriving DecidableEq
instance : Inhabited GReplicaEvent := ⟨⟨0, default⟩⟩
def GReplicaEvent.enc (x : GReplicaEvent) : List Value := [(.int .i64 x.ticks)] ++ (x.msg.enc)
theorem GReplicaEvent.enc_len (x : GReplicaEvent) : x.enc.length = 296 := by simp [GReplicaEvent.enc, GMsg.enc_len]
theorem GReplicaEvent.enc_one (x : GReplicaEvent) : ∀ u ∈ x.enc, u.oneCell' = true := by
  intro u hu
  simp only [GReplicaEvent.enc, List.mem_append, List.mem_singleton] at hu
  rcases hu with hu | hu
  · subst hu; rfl
  · exact Enc.one (α := GMsg) _ _ hu
theorem GReplicaEvent.enc_inj (x y : GReplicaEvent) (h : x.enc = y.enc) : x = y := by
  obtain ⟨a0, a1⟩ := x
  obtain ⟨b0, b1⟩ := y
  simp only [GReplicaEvent.enc] at h
  obtain ⟨p0, q0⟩ := List.append_inj h (rfl)
  have e0 : a0 = b0 := by have := List.head_eq_of_cons_eq p0; injection this
  have e1 := Enc.inj (α := GMsg) _ _ q0
  rw [e0, e1]
instance : Enc GReplicaEvent where
  n := 296
  enc := GReplicaEvent.enc
  pos := by omega
  len := GReplicaEvent.enc_len
  one := GReplicaEvent.enc_one
  inj := GReplicaEvent.enc_inj
@[go_sem] theorem GReplicaEvent.n_eq : Enc.n GReplicaEvent = 296 := rfl
@[irreducible] def GReplicaEvent.val (x : GReplicaEvent) : Value := .agg x.enc.toArray
theorem GReplicaEvent.val_eq (x : GReplicaEvent) : GReplicaEvent.val x = .agg (Enc.enc x).toArray := by unfold GReplicaEvent.val; rfl
theorem GReplicaEvent.ext_all (x y : GReplicaEvent) : x = y ↔ x.ticks = y.ticks ∧ x.msg = y.msg := by
  constructor
  · intro h; cases h; simp
  · intro h; cases x; cases y; simp_all
theorem uu75 : Tryz.prog.underlying 75 = some (.struct (Tryz.prog.fieldsOf 75)) := by kernel_rfl
theorem st75 : Tryz.prog.stoodInHeld 75 = false := by kernel_rfl
theorem fl75 : fieldTO Tryz.prog 75 = [(3, 0), (73, 1)] := by kernel_rfl
theorem nb75 : noBlank Tryz.prog 75 = true := by kernel_rfl
@[go_sem ↓ high] theorem xl_GReplicaEvent (ρ : Operand → Value) (dst : Option Tmp) (x : Operand) (ty : TypeId) (pos : String) (after : Array Edge) (guard : Option (Nat × Bool)) : execOp ρ { dst, op := .load 75 x, type := ty, pos, after, guard } = (do pure (.value (← gLoad 75 (ρ x)))) := ex_load ..
@[go_sem ↓ high] theorem xs_GReplicaEvent (ρ : Operand → Value) (dst : Option Tmp) (x y : Operand) (ty : TypeId) (pos : String) (after : Array Edge) (guard : Option (Nat × Bool)) : execOp ρ { dst, op := .store 75 x y, type := ty, pos, after, guard } = (do gStore 75 (ρ x) (ρ y); pure .skip) := ex_store ..
@[go_sem ↓ high] theorem xb_GReplicaEvent (ρ : Operand → Value) (dst : Option Tmp) (x : Operand) (ty : TypeId) (pos : String) (after : Array Edge) (guard : Option (Nat × Bool)) : execOp ρ { dst, op := .box 75 x, type := ty, pos, after, guard } = (do pure (.value (← gBox 75 (ρ x)))) := ex_box ..
@[go_sem ↓ high] theorem xa_GReplicaEvent (ρ : Operand → Value) (dst : Option Tmp) (ty : TypeId) (pos : String) (after : Array Edge) (guard : Option (Nat × Bool)) : execOp ρ { dst, op := .alloc 75, type := ty, pos, after, guard } = (do pure (.value (← gAlloc 75))) := ex_alloc ..
theorem ag75 : aggT Tryz.prog 75 = true := by kernel_rfl
theorem sz75 : sizeT Tryz.prog 75 = 296 := by kernel_rfl
section
variable (w : World)
@[go_sem ↓ high] theorem ld_GReplicaEvent (a : Addr) : (gLoad 75 (.pointer (some a))).run Tryz.prog w = ofOpt ((get? GReplicaEvent w a).map GReplicaEvent.val) w (noLoad Tryz.prog 75 a w) := by
  unfold gLoad; exact run_loadAt_opt ag75 sz75 GReplicaEvent.val GReplicaEvent.val_eq
@[go_sem ↓ high] theorem st_GReplicaEvent (a : Addr) (x : GReplicaEvent) : (gStore 75 (.pointer (some a)) (GReplicaEvent.val x)).run Tryz.prog w = okU' ((get? GReplicaEvent w a).isSome && blkFree w a.block) (World.putCells w a (GReplicaEvent.enc x)) (noStore Tryz.prog 75 (.pointer (some a)) (GReplicaEvent.val x) w) := run_gStore_any sz75 GReplicaEvent.val GReplicaEvent.val_eq w a x
@[go_sem ↓ high] theorem bx_GReplicaEvent (x : GReplicaEvent) : (gBox 75 (GReplicaEvent.val x)).run Tryz.prog w = .ok (.pointer (some ⟨w.heap.size, 0, none⟩)) (w.alloc (.cells (GReplicaEvent.enc x).toArray 75)) := by
  rw [GReplicaEvent.val_eq]; exact run_gBox _ w
end
theorem lk75_0 (x : GReplicaEvent) : x.enc[0]? = some (.int .i64 x.ticks) := by
  simp [GReplicaEvent.enc, List.getElem?_append]
theorem pt75_0 (w : World) (x : GReplicaEvent) : (part 3 x.enc.toArray 0).run Tryz.prog w = .ok (.int .i64 x.ticks) w := run_part_one na3 us3 (lk75_0 x)
@[go_sem ↓ high] theorem fd75_0 (w : World) (x : GReplicaEvent) : (gField 75 (GReplicaEvent.val x) 0).run Tryz.prog w = .ok (.int .i64 x.ticks) w := by
  rw [GReplicaEvent.val_eq]
  exact run_gField w uu75 (by rw [fl75]; rfl) (pt75_0 w x)
theorem ds75_1 (x : GReplicaEvent) : (x.enc.drop 1).take 295 = x.msg.enc := by
  unfold GReplicaEvent.enc
  simp [List.drop_append, List.drop_eq_nil_of_le] <;> (exact List.take_of_length_le (by simp [GMsg.enc_len]))
theorem pt75_1 (w : World) (x : GReplicaEvent) : (part 73 x.enc.toArray 1).run Tryz.prog w = .ok (x.msg.val) w := by
  have h := run_part_agg (P := Tryz.prog) (w := w) (cs := x.enc) (ds := x.msg.enc) (off := 1) ag73 (by rw [GMsg.enc_len]; exact sz73) (by simp [GMsg.enc_len]) (by rw [GMsg.enc_len]; exact ds75_1 x)
  rw [h, GMsg.val_eq]; rfl
@[go_sem ↓ high] theorem fd75_1 (w : World) (x : GReplicaEvent) : (gField 75 (GReplicaEvent.val x) 1).run Tryz.prog w = .ok (x.msg.val) w := by
  rw [GReplicaEvent.val_eq]
  exact run_gField w uu75 (by rw [fl75]; rfl) (pt75_1 w x)
@[go_sem ↓ high] theorem xf_GReplicaEvent (ρ : Operand → Value) (dst : Option Tmp) (x : Operand) (i : Nat) (ty : TypeId) (pos : String) (after : Array Edge) (guard : Option (Nat × Bool)) : execOp ρ { dst, op := .field 75 x i, type := ty, pos, after, guard } = (do pure (.value (← gField 75 (ρ x) i))) := ex_field ..
theorem zr75 : zeroT Tryz.prog 75 = some (.agg (GReplicaEvent.enc default).toArray) := by kernel_rfl
@[go_sem ↓ high] theorem al_GReplicaEvent (w : World) : (gAlloc 75).run Tryz.prog w = .ok (.pointer (some ⟨w.heap.size, 0, none⟩)) (w.alloc (.cells (GReplicaEvent.enc default).toArray 75)) := run_zero_alloc zr75 w
@[go_sem] theorem pc_GReplicaEvent (w : World) (n : Nat) (x z : GReplicaEvent) (hn : n = w.heap.size) : World.putCells (w.alloc (.cells (GReplicaEvent.enc z).toArray 75)) ⟨n, 0, none⟩ (GReplicaEvent.enc x) = w.alloc (.cells (GReplicaEvent.enc x).toArray 75) := putCells_top x z hn
theorem GReplicaEvent.at_ticks {w : World} {a : Addr} {x : GReplicaEvent} (h : get? GReplicaEvent w a = some x) : w.cell? (a.add 0) = some (.int .i64 x.ticks) := (get?_iff.1 h) _ _ (lk75_0 x)
theorem GReplicaEvent.at_msg {w : World} {a : Addr} {x : GReplicaEvent} (h : get? GReplicaEvent w a = some x) : get? GMsg w (a.add 1) = some x.msg := by
  rw [get?_iff] at h ⊢
  refine h.sub 1 fun j v hv => ?_
  have hd := ds75_1 x
  have hj : j < 295 := by have := (List.getElem?_eq_some_iff.1 hv).1; rwa [Enc.len] at this
  show x.enc[1 + j]? = some v
  rw [← List.getElem?_drop, ← List.getElem?_take_of_lt hj, hd]; exact hv
@[go_sem] theorem nl75_0 (x : GReplicaEvent) : x.enc[0]? = some (.int .i64 x.ticks) := by
  have h := (GReplicaEvent.at_ticks (get?_new (w := (default : World)) 75 x))
  simp only [Addr.add_lit, Nat.zero_add, Nat.reduceAdd, World.cell?_alloc_new, List.getElem?_toArray] at h
  exact h
@[go_sem] theorem nw75_1_GMsg (w : World) (n : Nat) (x : GReplicaEvent) (hn : n = w.heap.size) : get? GMsg (w.alloc (.cells (GReplicaEvent.enc x).toArray 75)) ⟨n, 1, none⟩ = some x.msg := by
  subst hn
  have h := (GReplicaEvent.at_msg (get?_new (w := w) 75 x))
  simp only [Addr.add_lit, Nat.zero_add, Nat.reduceAdd] at h
  exact h
@[go_sem] theorem nl75_1 (x : GReplicaEvent) : x.enc[1]? = some (.int .i64 x.msg.kind) := by
  have h := (GMsg.at_kind (GReplicaEvent.at_msg (get?_new (w := (default : World)) 75 x)))
  simp only [Addr.add_lit, Nat.zero_add, Nat.reduceAdd, World.cell?_alloc_new, List.getElem?_toArray] at h
  exact h
@[go_sem] theorem nl75_3 (x : GReplicaEvent) : x.enc[3]? = some (.int .i64 x.msg.to) := by
  have h := (GMsg.at_to (GReplicaEvent.at_msg (get?_new (w := (default : World)) 75 x)))
  simp only [Addr.add_lit, Nat.zero_add, Nat.reduceAdd, World.cell?_alloc_new, List.getElem?_toArray] at h
  exact h
@[go_sem] theorem nw75 (w : World) (n : Nat) (x : GReplicaEvent) (hn : n = w.heap.size) : get? GReplicaEvent (w.alloc (.cells (GReplicaEvent.enc x).toArray 75)) ⟨n, 0, none⟩ = some x := by
  subst hn; exact get?_new 75 x
theorem pl75 : ((Tryz.prog.fieldsOf 75).toList.mapM fun f => (Tryz.prog.info? f.type).map fun i => (f.offset, i.size)) = some [(0, 1), (1, 295)] := by kernel_rfl
theorem fs75_0 (x : GReplicaEvent) (v : Int) (rest : List (Nat × Value)) : Instr.fill (fun i => ([(0, 1), (1, 295)] : List (Nat × Nat))[i]?) x.enc.toArray ((0, (.int .i64 v)) :: rest) = Instr.fill (fun i => ([(0, 1), (1, 295)] : List (Nat × Nat))[i]?) ({ x with ticks := v } : GReplicaEvent).enc.toArray rest := by
  have h := fill_seg [(0, 1), (1, 295)] 0 0 1 rfl (([] : List Value)) ([(.int .i64 x.ticks)]) (x.msg.enc ++ (([] : List Value))) ([(.int .i64 v)]) (.int .i64 v) rest (rfl) (by simp [GMsg.enc_len]) (by simp [GMsg.enc_len]) (by simp [GMsg.enc_len])
  have e1 : x.enc = (([] : List Value)) ++ ([(.int .i64 x.ticks)] ++ (x.msg.enc ++ (([] : List Value)))) := by simp only [GReplicaEvent.enc, List.nil_append, List.append_assoc, List.append_nil]
  have e2 : ({ x with ticks := v } : GReplicaEvent).enc = (([] : List Value)) ++ ([(.int .i64 v)] ++ (x.msg.enc ++ (([] : List Value)))) := by simp only [GReplicaEvent.enc, List.nil_append, List.append_assoc, List.append_nil]
  rw [e1, e2]; exact h
@[go_sem ↓ high] theorem xd_GReplicaEvent (ρ : Operand → Value) (dst : Option Tmp) (ps : Array (Nat × Operand)) (ty : TypeId) (pos : String) (after : Array Edge) (guard : Option (Nat × Bool)) : execOp ρ { dst, op := .build 75 ps, type := ty, pos, after, guard } = (do pure (.value (← gBuild 75 (ps.map fun (i, x) => (i, ρ x))))) := ex_build ..
@[go_sem ↓ high] theorem bd75_0 (w : World) (v0 : Int) : (gBuild 75 #[(0, (.int .i64 v0))]).run Tryz.prog w = .ok (GReplicaEvent.val ⟨v0, default⟩) w := by
  rw [GReplicaEvent.val_eq]
  refine run_gBuild_of uu75 zr75 pl75 ?_ w
  show Instr.fill _ (GReplicaEvent.enc default).toArray [(0, (.int .i64 v0))] = _
  rw [fs75_0]; rfl

/-! ### gavel/replica.Replica -/
structure GReplicaReplica where
  c : GConf
  id : Int
  b : Option Addr
  started : Bool
  s : Option Addr
  t : Option Addr
  l : Option Addr
  v : Option Addr
  a : Option Addr
  e : Option Addr
  decided : Hdr
  replies : Hdr
  out : Hdr
deriving DecidableEq
instance : Inhabited GReplicaReplica := ⟨⟨default, 0, none, false, none, none, none, none, none, none, default, default, default⟩⟩
def GReplicaReplica.enc (x : GReplicaReplica) : List Value := x.c.enc ++ ([(.int .i64 x.id)] ++ ([(.pointer x.b)] ++ ([(.bool x.started)] ++ ([(.pointer x.s)] ++ ([(.pointer x.t)] ++ ([(.pointer x.l)] ++ ([(.pointer x.v)] ++ ([(.pointer x.a)] ++ ([(.pointer x.e)] ++ ([(x.decided.val)] ++ ([(x.replies.val)] ++ ([(x.out.val)]))))))))))))
theorem GReplicaReplica.enc_len (x : GReplicaReplica) : x.enc.length = 14 := by simp [GReplicaReplica.enc, GConf.enc_len]
theorem GReplicaReplica.enc_one (x : GReplicaReplica) : ∀ u ∈ x.enc, u.oneCell' = true := by
  intro u hu
  simp only [GReplicaReplica.enc, List.mem_append, List.mem_singleton] at hu
  rcases hu with hu | hu | hu | hu | hu | hu | hu | hu | hu | hu | hu | hu | hu
  · exact Enc.one (α := GConf) _ _ hu
  · subst hu; rfl
  · subst hu; rfl
  · subst hu; rfl
  · subst hu; rfl
  · subst hu; rfl
  · subst hu; rfl
  · subst hu; rfl
  · subst hu; rfl
  · subst hu; rfl
  · subst hu; rfl
  · subst hu; rfl
  · subst hu; rfl
theorem GReplicaReplica.enc_inj (x y : GReplicaReplica) (h : x.enc = y.enc) : x = y := by
  obtain ⟨a0, a1, a2, a3, a4, a5, a6, a7, a8, a9, a10, a11, a12⟩ := x
  obtain ⟨b0, b1, b2, b3, b4, b5, b6, b7, b8, b9, b10, b11, b12⟩ := y
  simp only [GReplicaReplica.enc] at h
  obtain ⟨p0, q0⟩ := List.append_inj h (by simp [GConf.enc_len])
  have e0 := Enc.inj (α := GConf) _ _ p0
  obtain ⟨p1, q1⟩ := List.append_inj q0 (rfl)
  have e1 : a1 = b1 := by have := List.head_eq_of_cons_eq p1; injection this
  obtain ⟨p2, q2⟩ := List.append_inj q1 (rfl)
  have e2 : a2 = b2 := by have := List.head_eq_of_cons_eq p2; injection this
  obtain ⟨p3, q3⟩ := List.append_inj q2 (rfl)
  have e3 : a3 = b3 := by have := List.head_eq_of_cons_eq p3; injection this
  obtain ⟨p4, q4⟩ := List.append_inj q3 (rfl)
  have e4 : a4 = b4 := by have := List.head_eq_of_cons_eq p4; injection this
  obtain ⟨p5, q5⟩ := List.append_inj q4 (rfl)
  have e5 : a5 = b5 := by have := List.head_eq_of_cons_eq p5; injection this
  obtain ⟨p6, q6⟩ := List.append_inj q5 (rfl)
  have e6 : a6 = b6 := by have := List.head_eq_of_cons_eq p6; injection this
  obtain ⟨p7, q7⟩ := List.append_inj q6 (rfl)
  have e7 : a7 = b7 := by have := List.head_eq_of_cons_eq p7; injection this
  obtain ⟨p8, q8⟩ := List.append_inj q7 (rfl)
  have e8 : a8 = b8 := by have := List.head_eq_of_cons_eq p8; injection this
  obtain ⟨p9, q9⟩ := List.append_inj q8 (rfl)
  have e9 : a9 = b9 := by have := List.head_eq_of_cons_eq p9; injection this
  obtain ⟨p10, q10⟩ := List.append_inj q9 (rfl)
  have e10 : a10 = b10 := Enc.inj (α := Hdr) _ _ p10
  obtain ⟨p11, q11⟩ := List.append_inj q10 (rfl)
  have e11 : a11 = b11 := Enc.inj (α := Hdr) _ _ p11
  have e12 : a12 = b12 := Enc.inj (α := Hdr) _ _ q11
  rw [e0, e1, e2, e3, e4, e5, e6, e7, e8, e9, e10, e11, e12]
instance : Enc GReplicaReplica where
  n := 14
  enc := GReplicaReplica.enc
  pos := by omega
  len := GReplicaReplica.enc_len
  one := GReplicaReplica.enc_one
  inj := GReplicaReplica.enc_inj
@[go_sem] theorem GReplicaReplica.n_eq : Enc.n GReplicaReplica = 14 := rfl
@[irreducible] def GReplicaReplica.val (x : GReplicaReplica) : Value := .agg x.enc.toArray
theorem GReplicaReplica.val_eq (x : GReplicaReplica) : GReplicaReplica.val x = .agg (Enc.enc x).toArray := by unfold GReplicaReplica.val; rfl
theorem GReplicaReplica.ext_all (x y : GReplicaReplica) : x = y ↔ x.c = y.c ∧ x.id = y.id ∧ x.b = y.b ∧ x.started = y.started ∧ x.s = y.s ∧ x.t = y.t ∧ x.l = y.l ∧ x.v = y.v ∧ x.a = y.a ∧ x.e = y.e ∧ x.decided = y.decided ∧ x.replies = y.replies ∧ x.out = y.out := by
  constructor
  · intro h; cases h; simp
  · intro h; cases x; cases y; simp_all
theorem uu103 : Tryz.prog.underlying 103 = some (.struct (Tryz.prog.fieldsOf 103)) := by kernel_rfl
theorem st103 : Tryz.prog.stoodInHeld 103 = false := by kernel_rfl
theorem fl103 : fieldTO Tryz.prog 103 = [(23, 0), (3, 2), (24, 3), (4, 4), (88, 5), (91, 6), (79, 7), (94, 8), (97, 9), (99, 10), (100, 11), (101, 12), (32, 13)] := by kernel_rfl
theorem nb103 : noBlank Tryz.prog 103 = true := by kernel_rfl
@[go_sem ↓ high] theorem xl_GReplicaReplica (ρ : Operand → Value) (dst : Option Tmp) (x : Operand) (ty : TypeId) (pos : String) (after : Array Edge) (guard : Option (Nat × Bool)) : execOp ρ { dst, op := .load 103 x, type := ty, pos, after, guard } = (do pure (.value (← gLoad 103 (ρ x)))) := ex_load ..
@[go_sem ↓ high] theorem xs_GReplicaReplica (ρ : Operand → Value) (dst : Option Tmp) (x y : Operand) (ty : TypeId) (pos : String) (after : Array Edge) (guard : Option (Nat × Bool)) : execOp ρ { dst, op := .store 103 x y, type := ty, pos, after, guard } = (do gStore 103 (ρ x) (ρ y); pure .skip) := ex_store ..
@[go_sem ↓ high] theorem xb_GReplicaReplica (ρ : Operand → Value) (dst : Option Tmp) (x : Operand) (ty : TypeId) (pos : String) (after : Array Edge) (guard : Option (Nat × Bool)) : execOp ρ { dst, op := .box 103 x, type := ty, pos, after, guard } = (do pure (.value (← gBox 103 (ρ x)))) := ex_box ..
@[go_sem ↓ high] theorem xa_GReplicaReplica (ρ : Operand → Value) (dst : Option Tmp) (ty : TypeId) (pos : String) (after : Array Edge) (guard : Option (Nat × Bool)) : execOp ρ { dst, op := .alloc 103, type := ty, pos, after, guard } = (do pure (.value (← gAlloc 103))) := ex_alloc ..
theorem ag103 : aggT Tryz.prog 103 = true := by kernel_rfl
theorem sz103 : sizeT Tryz.prog 103 = 14 := by kernel_rfl
section
variable (w : World)
@[go_sem ↓ high] theorem ld_GReplicaReplica (a : Addr) : (gLoad 103 (.pointer (some a))).run Tryz.prog w = ofOpt ((get? GReplicaReplica w a).map GReplicaReplica.val) w (noLoad Tryz.prog 103 a w) := by
  unfold gLoad; exact run_loadAt_opt ag103 sz103 GReplicaReplica.val GReplicaReplica.val_eq
@[go_sem ↓ high] theorem st_GReplicaReplica (a : Addr) (x : GReplicaReplica) : (gStore 103 (.pointer (some a)) (GReplicaReplica.val x)).run Tryz.prog w = okU' ((get? GReplicaReplica w a).isSome && blkFree w a.block) (World.putCells w a (GReplicaReplica.enc x)) (noStore Tryz.prog 103 (.pointer (some a)) (GReplicaReplica.val x) w) := run_gStore_any sz103 GReplicaReplica.val GReplicaReplica.val_eq w a x
@[go_sem ↓ high] theorem bx_GReplicaReplica (x : GReplicaReplica) : (gBox 103 (GReplicaReplica.val x)).run Tryz.prog w = .ok (.pointer (some ⟨w.heap.size, 0, none⟩)) (w.alloc (.cells (GReplicaReplica.enc x).toArray 103)) := by
  rw [GReplicaReplica.val_eq]; exact run_gBox _ w
end
theorem ds103_0 (x : GReplicaReplica) : (x.enc.drop 0).take 2 = x.c.enc := by
  unfold GReplicaReplica.enc
  simp only [List.drop_zero] <;> (rw [List.take_append_of_le_length (by simp [GConf.enc_len])]; exact List.take_of_length_le (by simp [GConf.enc_len]))
theorem pt103_0 (w : World) (x : GReplicaReplica) : (part 23 x.enc.toArray 0).run Tryz.prog w = .ok (x.c.val) w := by
  have h := run_part_agg (P := Tryz.prog) (w := w) (cs := x.enc) (ds := x.c.enc) (off := 0) ag23 (by rw [GConf.enc_len]; exact sz23) (by simp [GConf.enc_len]) (by rw [GConf.enc_len]; exact ds103_0 x)
  rw [h, GConf.val_eq]; rfl
@[go_sem ↓ high] theorem fd103_0 (w : World) (x : GReplicaReplica) : (gField 103 (GReplicaReplica.val x) 0).run Tryz.prog w = .ok (x.c.val) w := by
  rw [GReplicaReplica.val_eq]
  exact run_gField w uu103 (by rw [fl103]; rfl) (pt103_0 w x)
theorem lk103_1 (x : GReplicaReplica) : x.enc[2]? = some (.int .i64 x.id) := by
  simp [GReplicaReplica.enc, List.getElem?_append, GConf.enc_len]
theorem pt103_1 (w : World) (x : GReplicaReplica) : (part 3 x.enc.toArray 2).run Tryz.prog w = .ok (.int .i64 x.id) w := run_part_one na3 us3 (lk103_1 x)
@[go_sem ↓ high] theorem fd103_1 (w : World) (x : GReplicaReplica) : (gField 103 (GReplicaReplica.val x) 1).run Tryz.prog w = .ok (.int .i64 x.id) w := by
  rw [GReplicaReplica.val_eq]
  exact run_gField w uu103 (by rw [fl103]; rfl) (pt103_1 w x)
theorem lk103_2 (x : GReplicaReplica) : x.enc[3]? = some (.pointer x.b) := by
  simp [GReplicaReplica.enc, List.getElem?_append, GConf.enc_len]
theorem pt103_2 (w : World) (x : GReplicaReplica) : (part 24 x.enc.toArray 3).run Tryz.prog w = .ok (.pointer x.b) w := run_part_one na24 us24 (lk103_2 x)
@[go_sem ↓ high] theorem fd103_2 (w : World) (x : GReplicaReplica) : (gField 103 (GReplicaReplica.val x) 2).run Tryz.prog w = .ok (.pointer x.b) w := by
  rw [GReplicaReplica.val_eq]
  exact run_gField w uu103 (by rw [fl103]; rfl) (pt103_2 w x)
theorem lk103_3 (x : GReplicaReplica) : x.enc[4]? = some (.bool x.started) := by
  simp [GReplicaReplica.enc, List.getElem?_append, GConf.enc_len]
theorem pt103_3 (w : World) (x : GReplicaReplica) : (part 4 x.enc.toArray 4).run Tryz.prog w = .ok (.bool x.started) w := run_part_one na4 us4 (lk103_3 x)
@[go_sem ↓ high] theorem fd103_3 (w : World) (x : GReplicaReplica) : (gField 103 (GReplicaReplica.val x) 3).run Tryz.prog w = .ok (.bool x.started) w := by
  rw [GReplicaReplica.val_eq]
  exact run_gField w uu103 (by rw [fl103]; rfl) (pt103_3 w x)
theorem lk103_4 (x : GReplicaReplica) : x.enc[5]? = some (.pointer x.s) := by
  simp [GReplicaReplica.enc, List.getElem?_append, GConf.enc_len]
theorem pt103_4 (w : World) (x : GReplicaReplica) : (part 88 x.enc.toArray 5).run Tryz.prog w = .ok (.pointer x.s) w := run_part_one na88 us88 (lk103_4 x)
@[go_sem ↓ high] theorem fd103_4 (w : World) (x : GReplicaReplica) : (gField 103 (GReplicaReplica.val x) 4).run Tryz.prog w = .ok (.pointer x.s) w := by
  rw [GReplicaReplica.val_eq]
  exact run_gField w uu103 (by rw [fl103]; rfl) (pt103_4 w x)
theorem lk103_5 (x : GReplicaReplica) : x.enc[6]? = some (.pointer x.t) := by
  simp [GReplicaReplica.enc, List.getElem?_append, GConf.enc_len]
theorem pt103_5 (w : World) (x : GReplicaReplica) : (part 91 x.enc.toArray 6).run Tryz.prog w = .ok (.pointer x.t) w := run_part_one na91 us91 (lk103_5 x)
@[go_sem ↓ high] theorem fd103_5 (w : World) (x : GReplicaReplica) : (gField 103 (GReplicaReplica.val x) 5).run Tryz.prog w = .ok (.pointer x.t) w := by
  rw [GReplicaReplica.val_eq]
  exact run_gField w uu103 (by rw [fl103]; rfl) (pt103_5 w x)
theorem lk103_6 (x : GReplicaReplica) : x.enc[7]? = some (.pointer x.l) := by
  simp [GReplicaReplica.enc, List.getElem?_append, GConf.enc_len]
theorem pt103_6 (w : World) (x : GReplicaReplica) : (part 79 x.enc.toArray 7).run Tryz.prog w = .ok (.pointer x.l) w := run_part_one na79 us79 (lk103_6 x)
@[go_sem ↓ high] theorem fd103_6 (w : World) (x : GReplicaReplica) : (gField 103 (GReplicaReplica.val x) 6).run Tryz.prog w = .ok (.pointer x.l) w := by
  rw [GReplicaReplica.val_eq]
  exact run_gField w uu103 (by rw [fl103]; rfl) (pt103_6 w x)
theorem lk103_7 (x : GReplicaReplica) : x.enc[8]? = some (.pointer x.v) := by
  simp [GReplicaReplica.enc, List.getElem?_append, GConf.enc_len]
theorem pt103_7 (w : World) (x : GReplicaReplica) : (part 94 x.enc.toArray 8).run Tryz.prog w = .ok (.pointer x.v) w := run_part_one na94 us94 (lk103_7 x)
@[go_sem ↓ high] theorem fd103_7 (w : World) (x : GReplicaReplica) : (gField 103 (GReplicaReplica.val x) 7).run Tryz.prog w = .ok (.pointer x.v) w := by
  rw [GReplicaReplica.val_eq]
  exact run_gField w uu103 (by rw [fl103]; rfl) (pt103_7 w x)
theorem lk103_8 (x : GReplicaReplica) : x.enc[9]? = some (.pointer x.a) := by
  simp [GReplicaReplica.enc, List.getElem?_append, GConf.enc_len]
theorem pt103_8 (w : World) (x : GReplicaReplica) : (part 97 x.enc.toArray 9).run Tryz.prog w = .ok (.pointer x.a) w := run_part_one na97 us97 (lk103_8 x)
@[go_sem ↓ high] theorem fd103_8 (w : World) (x : GReplicaReplica) : (gField 103 (GReplicaReplica.val x) 8).run Tryz.prog w = .ok (.pointer x.a) w := by
  rw [GReplicaReplica.val_eq]
  exact run_gField w uu103 (by rw [fl103]; rfl) (pt103_8 w x)
theorem lk103_9 (x : GReplicaReplica) : x.enc[10]? = some (.pointer x.e) := by
  simp [GReplicaReplica.enc, List.getElem?_append, GConf.enc_len]
theorem pt103_9 (w : World) (x : GReplicaReplica) : (part 99 x.enc.toArray 10).run Tryz.prog w = .ok (.pointer x.e) w := run_part_one na99 us99 (lk103_9 x)
@[go_sem ↓ high] theorem fd103_9 (w : World) (x : GReplicaReplica) : (gField 103 (GReplicaReplica.val x) 9).run Tryz.prog w = .ok (.pointer x.e) w := by
  rw [GReplicaReplica.val_eq]
  exact run_gField w uu103 (by rw [fl103]; rfl) (pt103_9 w x)
theorem lk103_10 (x : GReplicaReplica) : x.enc[11]? = some (x.decided.val) := by
  simp [GReplicaReplica.enc, List.getElem?_append, GConf.enc_len]
theorem pt103_10 (w : World) (x : GReplicaReplica) : (part 100 x.enc.toArray 11).run Tryz.prog w = .ok (x.decided.val) w := run_part_one na100 us100 (lk103_10 x)
@[go_sem ↓ high] theorem fd103_10 (w : World) (x : GReplicaReplica) : (gField 103 (GReplicaReplica.val x) 10).run Tryz.prog w = .ok (x.decided.val) w := by
  rw [GReplicaReplica.val_eq]
  exact run_gField w uu103 (by rw [fl103]; rfl) (pt103_10 w x)
theorem lk103_11 (x : GReplicaReplica) : x.enc[12]? = some (x.replies.val) := by
  simp [GReplicaReplica.enc, List.getElem?_append, GConf.enc_len]
theorem pt103_11 (w : World) (x : GReplicaReplica) : (part 101 x.enc.toArray 12).run Tryz.prog w = .ok (x.replies.val) w := run_part_one na101 us101 (lk103_11 x)
@[go_sem ↓ high] theorem fd103_11 (w : World) (x : GReplicaReplica) : (gField 103 (GReplicaReplica.val x) 11).run Tryz.prog w = .ok (x.replies.val) w := by
  rw [GReplicaReplica.val_eq]
  exact run_gField w uu103 (by rw [fl103]; rfl) (pt103_11 w x)
theorem lk103_12 (x : GReplicaReplica) : x.enc[13]? = some (x.out.val) := by
  simp [GReplicaReplica.enc, List.getElem?_append, GConf.enc_len]
theorem pt103_12 (w : World) (x : GReplicaReplica) : (part 32 x.enc.toArray 13).run Tryz.prog w = .ok (x.out.val) w := run_part_one na32 us32 (lk103_12 x)
@[go_sem ↓ high] theorem fd103_12 (w : World) (x : GReplicaReplica) : (gField 103 (GReplicaReplica.val x) 12).run Tryz.prog w = .ok (x.out.val) w := by
  rw [GReplicaReplica.val_eq]
  exact run_gField w uu103 (by rw [fl103]; rfl) (pt103_12 w x)
@[go_sem ↓ high] theorem xf_GReplicaReplica (ρ : Operand → Value) (dst : Option Tmp) (x : Operand) (i : Nat) (ty : TypeId) (pos : String) (after : Array Edge) (guard : Option (Nat × Bool)) : execOp ρ { dst, op := .field 103 x i, type := ty, pos, after, guard } = (do pure (.value (← gField 103 (ρ x) i))) := ex_field ..
theorem zr103 : zeroT Tryz.prog 103 = some (.agg (GReplicaReplica.enc default).toArray) := by kernel_rfl
@[go_sem ↓ high] theorem al_GReplicaReplica (w : World) : (gAlloc 103).run Tryz.prog w = .ok (.pointer (some ⟨w.heap.size, 0, none⟩)) (w.alloc (.cells (GReplicaReplica.enc default).toArray 103)) := run_zero_alloc zr103 w
@[go_sem] theorem pc_GReplicaReplica (w : World) (n : Nat) (x z : GReplicaReplica) (hn : n = w.heap.size) : World.putCells (w.alloc (.cells (GReplicaReplica.enc z).toArray 103)) ⟨n, 0, none⟩ (GReplicaReplica.enc x) = w.alloc (.cells (GReplicaReplica.enc x).toArray 103) := putCells_top x z hn
theorem GReplicaReplica.at_c {w : World} {a : Addr} {x : GReplicaReplica} (h : get? GReplicaReplica w a = some x) : get? GConf w (a.add 0) = some x.c := by
  rw [get?_iff] at h ⊢
  refine h.sub 0 fun j v hv => ?_
  have hd := ds103_0 x
  have hj : j < 2 := by have := (List.getElem?_eq_some_iff.1 hv).1; rwa [Enc.len] at this
  show x.enc[0 + j]? = some v
  rw [← List.getElem?_drop, ← List.getElem?_take_of_lt hj, hd]; exact hv
theorem GReplicaReplica.at_id {w : World} {a : Addr} {x : GReplicaReplica} (h : get? GReplicaReplica w a = some x) : w.cell? (a.add 2) = some (.int .i64 x.id) := (get?_iff.1 h) _ _ (lk103_1 x)
theorem GReplicaReplica.at_b {w : World} {a : Addr} {x : GReplicaReplica} (h : get? GReplicaReplica w a = some x) : w.cell? (a.add 3) = some (.pointer x.b) := (get?_iff.1 h) _ _ (lk103_2 x)
theorem GReplicaReplica.at_started {w : World} {a : Addr} {x : GReplicaReplica} (h : get? GReplicaReplica w a = some x) : w.cell? (a.add 4) = some (.bool x.started) := (get?_iff.1 h) _ _ (lk103_3 x)
theorem GReplicaReplica.at_s {w : World} {a : Addr} {x : GReplicaReplica} (h : get? GReplicaReplica w a = some x) : w.cell? (a.add 5) = some (.pointer x.s) := (get?_iff.1 h) _ _ (lk103_4 x)
theorem GReplicaReplica.at_t {w : World} {a : Addr} {x : GReplicaReplica} (h : get? GReplicaReplica w a = some x) : w.cell? (a.add 6) = some (.pointer x.t) := (get?_iff.1 h) _ _ (lk103_5 x)
theorem GReplicaReplica.at_l {w : World} {a : Addr} {x : GReplicaReplica} (h : get? GReplicaReplica w a = some x) : w.cell? (a.add 7) = some (.pointer x.l) := (get?_iff.1 h) _ _ (lk103_6 x)
theorem GReplicaReplica.at_v {w : World} {a : Addr} {x : GReplicaReplica} (h : get? GReplicaReplica w a = some x) : w.cell? (a.add 8) = some (.pointer x.v) := (get?_iff.1 h) _ _ (lk103_7 x)
theorem GReplicaReplica.at_a {w : World} {a : Addr} {x : GReplicaReplica} (h : get? GReplicaReplica w a = some x) : w.cell? (a.add 9) = some (.pointer x.a) := (get?_iff.1 h) _ _ (lk103_8 x)
theorem GReplicaReplica.at_e {w : World} {a : Addr} {x : GReplicaReplica} (h : get? GReplicaReplica w a = some x) : w.cell? (a.add 10) = some (.pointer x.e) := (get?_iff.1 h) _ _ (lk103_9 x)
theorem GReplicaReplica.at_decided {w : World} {a : Addr} {x : GReplicaReplica} (h : get? GReplicaReplica w a = some x) : w.cell? (a.add 11) = some (x.decided.val) := (get?_iff.1 h) _ _ (lk103_10 x)
theorem GReplicaReplica.at_replies {w : World} {a : Addr} {x : GReplicaReplica} (h : get? GReplicaReplica w a = some x) : w.cell? (a.add 12) = some (x.replies.val) := (get?_iff.1 h) _ _ (lk103_11 x)
theorem GReplicaReplica.at_out {w : World} {a : Addr} {x : GReplicaReplica} (h : get? GReplicaReplica w a = some x) : w.cell? (a.add 13) = some (x.out.val) := (get?_iff.1 h) _ _ (lk103_12 x)
@[go_sem] theorem nw103_0_GConf (w : World) (n : Nat) (x : GReplicaReplica) (hn : n = w.heap.size) : get? GConf (w.alloc (.cells (GReplicaReplica.enc x).toArray 103)) ⟨n, 0, none⟩ = some x.c := by
  subst hn
  have h := (GReplicaReplica.at_c (get?_new (w := w) 103 x))
  simp only [Addr.add_lit, Nat.zero_add, Nat.reduceAdd] at h
  exact h
@[go_sem] theorem nl103_0 (x : GReplicaReplica) : x.enc[0]? = some (.int .i64 x.c.f) := by
  have h := (GConf.at_f (GReplicaReplica.at_c (get?_new (w := (default : World)) 103 x)))
  simp only [Addr.add_lit, Nat.zero_add, Nat.reduceAdd, World.cell?_alloc_new, List.getElem?_toArray] at h
  exact h
@[go_sem] theorem nl103_1 (x : GReplicaReplica) : x.enc[1]? = some (.int .i64 x.c.clients) := by
  have h := (GConf.at_clients (GReplicaReplica.at_c (get?_new (w := (default : World)) 103 x)))
  simp only [Addr.add_lit, Nat.zero_add, Nat.reduceAdd, World.cell?_alloc_new, List.getElem?_toArray] at h
  exact h
@[go_sem] theorem nl103_2 (x : GReplicaReplica) : x.enc[2]? = some (.int .i64 x.id) := by
  have h := (GReplicaReplica.at_id (get?_new (w := (default : World)) 103 x))
  simp only [Addr.add_lit, Nat.zero_add, Nat.reduceAdd, World.cell?_alloc_new, List.getElem?_toArray] at h
  exact h
@[go_sem] theorem nl103_3 (x : GReplicaReplica) : x.enc[3]? = some (.pointer x.b) := by
  have h := (GReplicaReplica.at_b (get?_new (w := (default : World)) 103 x))
  simp only [Addr.add_lit, Nat.zero_add, Nat.reduceAdd, World.cell?_alloc_new, List.getElem?_toArray] at h
  exact h
@[go_sem] theorem nl103_4 (x : GReplicaReplica) : x.enc[4]? = some (.bool x.started) := by
  have h := (GReplicaReplica.at_started (get?_new (w := (default : World)) 103 x))
  simp only [Addr.add_lit, Nat.zero_add, Nat.reduceAdd, World.cell?_alloc_new, List.getElem?_toArray] at h
  exact h
@[go_sem] theorem nl103_5 (x : GReplicaReplica) : x.enc[5]? = some (.pointer x.s) := by
  have h := (GReplicaReplica.at_s (get?_new (w := (default : World)) 103 x))
  simp only [Addr.add_lit, Nat.zero_add, Nat.reduceAdd, World.cell?_alloc_new, List.getElem?_toArray] at h
  exact h
@[go_sem] theorem nl103_6 (x : GReplicaReplica) : x.enc[6]? = some (.pointer x.t) := by
  have h := (GReplicaReplica.at_t (get?_new (w := (default : World)) 103 x))
  simp only [Addr.add_lit, Nat.zero_add, Nat.reduceAdd, World.cell?_alloc_new, List.getElem?_toArray] at h
  exact h
@[go_sem] theorem nl103_7 (x : GReplicaReplica) : x.enc[7]? = some (.pointer x.l) := by
  have h := (GReplicaReplica.at_l (get?_new (w := (default : World)) 103 x))
  simp only [Addr.add_lit, Nat.zero_add, Nat.reduceAdd, World.cell?_alloc_new, List.getElem?_toArray] at h
  exact h
@[go_sem] theorem nl103_8 (x : GReplicaReplica) : x.enc[8]? = some (.pointer x.v) := by
  have h := (GReplicaReplica.at_v (get?_new (w := (default : World)) 103 x))
  simp only [Addr.add_lit, Nat.zero_add, Nat.reduceAdd, World.cell?_alloc_new, List.getElem?_toArray] at h
  exact h
@[go_sem] theorem nl103_9 (x : GReplicaReplica) : x.enc[9]? = some (.pointer x.a) := by
  have h := (GReplicaReplica.at_a (get?_new (w := (default : World)) 103 x))
  simp only [Addr.add_lit, Nat.zero_add, Nat.reduceAdd, World.cell?_alloc_new, List.getElem?_toArray] at h
  exact h
@[go_sem] theorem nl103_10 (x : GReplicaReplica) : x.enc[10]? = some (.pointer x.e) := by
  have h := (GReplicaReplica.at_e (get?_new (w := (default : World)) 103 x))
  simp only [Addr.add_lit, Nat.zero_add, Nat.reduceAdd, World.cell?_alloc_new, List.getElem?_toArray] at h
  exact h
@[go_sem] theorem nl103_11 (x : GReplicaReplica) : x.enc[11]? = some (x.decided.val) := by
  have h := (GReplicaReplica.at_decided (get?_new (w := (default : World)) 103 x))
  simp only [Addr.add_lit, Nat.zero_add, Nat.reduceAdd, World.cell?_alloc_new, List.getElem?_toArray] at h
  exact h
@[go_sem] theorem nl103_12 (x : GReplicaReplica) : x.enc[12]? = some (x.replies.val) := by
  have h := (GReplicaReplica.at_replies (get?_new (w := (default : World)) 103 x))
  simp only [Addr.add_lit, Nat.zero_add, Nat.reduceAdd, World.cell?_alloc_new, List.getElem?_toArray] at h
  exact h
@[go_sem] theorem nl103_13 (x : GReplicaReplica) : x.enc[13]? = some (x.out.val) := by
  have h := (GReplicaReplica.at_out (get?_new (w := (default : World)) 103 x))
  simp only [Addr.add_lit, Nat.zero_add, Nat.reduceAdd, World.cell?_alloc_new, List.getElem?_toArray] at h
  exact h
@[go_sem] theorem nw103 (w : World) (n : Nat) (x : GReplicaReplica) (hn : n = w.heap.size) : get? GReplicaReplica (w.alloc (.cells (GReplicaReplica.enc x).toArray 103)) ⟨n, 0, none⟩ = some x := by
  subst hn; exact get?_new 103 x
theorem pl103 : ((Tryz.prog.fieldsOf 103).toList.mapM fun f => (Tryz.prog.info? f.type).map fun i => (f.offset, i.size)) = some [(0, 2), (2, 1), (3, 1), (4, 1), (5, 1), (6, 1), (7, 1), (8, 1), (9, 1), (10, 1), (11, 1), (12, 1), (13, 1)] := by kernel_rfl
theorem fs103_0 (x : GReplicaReplica) (v : GConf) (rest : List (Nat × Value)) : Instr.fill (fun i => ([(0, 2), (2, 1), (3, 1), (4, 1), (5, 1), (6, 1), (7, 1), (8, 1), (9, 1), (10, 1), (11, 1), (12, 1), (13, 1)] : List (Nat × Nat))[i]?) x.enc.toArray ((0, (v.val)) :: rest) = Instr.fill (fun i => ([(0, 2), (2, 1), (3, 1), (4, 1), (5, 1), (6, 1), (7, 1), (8, 1), (9, 1), (10, 1), (11, 1), (12, 1), (13, 1)] : List (Nat × Nat))[i]?) ({ x with c := v } : GReplicaReplica).enc.toArray rest := by
  have h := fill_seg [(0, 2), (2, 1), (3, 1), (4, 1), (5, 1), (6, 1), (7, 1), (8, 1), (9, 1), (10, 1), (11, 1), (12, 1), (13, 1)] 0 0 2 rfl (([] : List Value)) (x.c.enc) ([(.int .i64 x.id)] ++ ([(.pointer x.b)] ++ ([(.bool x.started)] ++ ([(.pointer x.s)] ++ ([(.pointer x.t)] ++ ([(.pointer x.l)] ++ ([(.pointer x.v)] ++ ([(.pointer x.a)] ++ ([(.pointer x.e)] ++ ([(x.decided.val)] ++ ([(x.replies.val)] ++ ([(x.out.val)] ++ (([] : List Value)))))))))))))) (v.enc) (v.val) rest (by rw [GConf.val_eq]; rfl) (by simp [GConf.enc_len]) (by simp [GConf.enc_len]) (by simp [GConf.enc_len])
  have e1 : x.enc = (([] : List Value)) ++ (x.c.enc ++ ([(.int .i64 x.id)] ++ ([(.pointer x.b)] ++ ([(.bool x.started)] ++ ([(.pointer x.s)] ++ ([(.pointer x.t)] ++ ([(.pointer x.l)] ++ ([(.pointer x.v)] ++ ([(.pointer x.a)] ++ ([(.pointer x.e)] ++ ([(x.decided.val)] ++ ([(x.replies.val)] ++ ([(x.out.val)] ++ (([] : List Value))))))))))))))) := by simp only [GReplicaReplica.enc, List.nil_append, List.append_assoc, List.append_nil]
  have e2 : ({ x with c := v } : GReplicaReplica).enc = (([] : List Value)) ++ (v.enc ++ ([(.int .i64 x.id)] ++ ([(.pointer x.b)] ++ ([(.bool x.started)] ++ ([(.pointer x.s)] ++ ([(.pointer x.t)] ++ ([(.pointer x.l)] ++ ([(.pointer x.v)] ++ ([(.pointer x.a)] ++ ([(.pointer x.e)] ++ ([(x.decided.val)] ++ ([(x.replies.val)] ++ ([(x.out.val)] ++ (([] : List Value))))))))))))))) := by simp only [GReplicaReplica.enc, List.nil_append, List.append_assoc, List.append_nil]
  rw [e1, e2]; exact h
theorem fs103_1 (x : GReplicaReplica) (v : Int) (rest : List (Nat × Value)) : Instr.fill (fun i => ([(0, 2), (2, 1), (3, 1), (4, 1), (5, 1), (6, 1), (7, 1), (8, 1), (9, 1), (10, 1), (11, 1), (12, 1), (13, 1)] : List (Nat × Nat))[i]?) x.enc.toArray ((1, (.int .i64 v)) :: rest) = Instr.fill (fun i => ([(0, 2), (2, 1), (3, 1), (4, 1), (5, 1), (6, 1), (7, 1), (8, 1), (9, 1), (10, 1), (11, 1), (12, 1), (13, 1)] : List (Nat × Nat))[i]?) ({ x with id := v } : GReplicaReplica).enc.toArray rest := by
  have h := fill_seg [(0, 2), (2, 1), (3, 1), (4, 1), (5, 1), (6, 1), (7, 1), (8, 1), (9, 1), (10, 1), (11, 1), (12, 1), (13, 1)] 1 2 1 rfl (([] : List Value) ++ (x.c.enc)) ([(.int .i64 x.id)]) ([(.pointer x.b)] ++ ([(.bool x.started)] ++ ([(.pointer x.s)] ++ ([(.pointer x.t)] ++ ([(.pointer x.l)] ++ ([(.pointer x.v)] ++ ([(.pointer x.a)] ++ ([(.pointer x.e)] ++ ([(x.decided.val)] ++ ([(x.replies.val)] ++ ([(x.out.val)] ++ (([] : List Value))))))))))))) ([(.int .i64 v)]) (.int .i64 v) rest (rfl) (by simp [GConf.enc_len]) (by simp [GConf.enc_len]) (by simp [GConf.enc_len])
  have e1 : x.enc = (([] : List Value) ++ (x.c.enc)) ++ ([(.int .i64 x.id)] ++ ([(.pointer x.b)] ++ ([(.bool x.started)] ++ ([(.pointer x.s)] ++ ([(.pointer x.t)] ++ ([(.pointer x.l)] ++ ([(.pointer x.v)] ++ ([(.pointer x.a)] ++ ([(.pointer x.e)] ++ ([(x.decided.val)] ++ ([(x.replies.val)] ++ ([(x.out.val)] ++ (([] : List Value)))))))))))))) := by simp only [GReplicaReplica.enc, List.nil_append, List.append_assoc, List.append_nil]
  have e2 : ({ x with id := v } : GReplicaReplica).enc = (([] : List Value) ++ (x.c.enc)) ++ ([(.int .i64 v)] ++ ([(.pointer x.b)] ++ ([(.bool x.started)] ++ ([(.pointer x.s)] ++ ([(.pointer x.t)] ++ ([(.pointer x.l)] ++ ([(.pointer x.v)] ++ ([(.pointer x.a)] ++ ([(.pointer x.e)] ++ ([(x.decided.val)] ++ ([(x.replies.val)] ++ ([(x.out.val)] ++ (([] : List Value)))))))))))))) := by simp only [GReplicaReplica.enc, List.nil_append, List.append_assoc, List.append_nil]
  rw [e1, e2]; exact h
theorem fs103_2 (x : GReplicaReplica) (v : Option Addr) (rest : List (Nat × Value)) : Instr.fill (fun i => ([(0, 2), (2, 1), (3, 1), (4, 1), (5, 1), (6, 1), (7, 1), (8, 1), (9, 1), (10, 1), (11, 1), (12, 1), (13, 1)] : List (Nat × Nat))[i]?) x.enc.toArray ((2, (.pointer v)) :: rest) = Instr.fill (fun i => ([(0, 2), (2, 1), (3, 1), (4, 1), (5, 1), (6, 1), (7, 1), (8, 1), (9, 1), (10, 1), (11, 1), (12, 1), (13, 1)] : List (Nat × Nat))[i]?) ({ x with b := v } : GReplicaReplica).enc.toArray rest := by
  have h := fill_seg [(0, 2), (2, 1), (3, 1), (4, 1), (5, 1), (6, 1), (7, 1), (8, 1), (9, 1), (10, 1), (11, 1), (12, 1), (13, 1)] 2 3 1 rfl (([] : List Value) ++ (x.c.enc ++ ([(.int .i64 x.id)]))) ([(.pointer x.b)]) ([(.bool x.started)] ++ ([(.pointer x.s)] ++ ([(.pointer x.t)] ++ ([(.pointer x.l)] ++ ([(.pointer x.v)] ++ ([(.pointer x.a)] ++ ([(.pointer x.e)] ++ ([(x.decided.val)] ++ ([(x.replies.val)] ++ ([(x.out.val)] ++ (([] : List Value)))))))))))) ([(.pointer v)]) (.pointer v) rest (rfl) (by simp [GConf.enc_len]) (by simp [GConf.enc_len]) (by simp [GConf.enc_len])
  have e1 : x.enc = (([] : List Value) ++ (x.c.enc ++ ([(.int .i64 x.id)]))) ++ ([(.pointer x.b)] ++ ([(.bool x.started)] ++ ([(.pointer x.s)] ++ ([(.pointer x.t)] ++ ([(.pointer x.l)] ++ ([(.pointer x.v)] ++ ([(.pointer x.a)] ++ ([(.pointer x.e)] ++ ([(x.decided.val)] ++ ([(x.replies.val)] ++ ([(x.out.val)] ++ (([] : List Value))))))))))))) := by simp only [GReplicaReplica.enc, List.nil_append, List.append_assoc, List.append_nil]
  have e2 : ({ x with b := v } : GReplicaReplica).enc = (([] : List Value) ++ (x.c.enc ++ ([(.int .i64 x.id)]))) ++ ([(.pointer v)] ++ ([(.bool x.started)] ++ ([(.pointer x.s)] ++ ([(.pointer x.t)] ++ ([(.pointer x.l)] ++ ([(.pointer x.v)] ++ ([(.pointer x.a)] ++ ([(.pointer x.e)] ++ ([(x.decided.val)] ++ ([(x.replies.val)] ++ ([(x.out.val)] ++ (([] : List Value))))))))))))) := by simp only [GReplicaReplica.enc, List.nil_append, List.append_assoc, List.append_nil]
  rw [e1, e2]; exact h
theorem fs103_4 (x : GReplicaReplica) (v : Option Addr) (rest : List (Nat × Value)) : Instr.fill (fun i => ([(0, 2), (2, 1), (3, 1), (4, 1), (5, 1), (6, 1), (7, 1), (8, 1), (9, 1), (10, 1), (11, 1), (12, 1), (13, 1)] : List (Nat × Nat))[i]?) x.enc.toArray ((4, (.pointer v)) :: rest) = Instr.fill (fun i => ([(0, 2), (2, 1), (3, 1), (4, 1), (5, 1), (6, 1), (7, 1), (8, 1), (9, 1), (10, 1), (11, 1), (12, 1), (13, 1)] : List (Nat × Nat))[i]?) ({ x with s := v } : GReplicaReplica).enc.toArray rest := by
  have h := fill_seg [(0, 2), (2, 1), (3, 1), (4, 1), (5, 1), (6, 1), (7, 1), (8, 1), (9, 1), (10, 1), (11, 1), (12, 1), (13, 1)] 4 5 1 rfl (([] : List Value) ++ (x.c.enc ++ ([(.int .i64 x.id)] ++ ([(.pointer x.b)] ++ ([(.bool x.started)]))))) ([(.pointer x.s)]) ([(.pointer x.t)] ++ ([(.pointer x.l)] ++ ([(.pointer x.v)] ++ ([(.pointer x.a)] ++ ([(.pointer x.e)] ++ ([(x.decided.val)] ++ ([(x.replies.val)] ++ ([(x.out.val)] ++ (([] : List Value)))))))))) ([(.pointer v)]) (.pointer v) rest (rfl) (by simp [GConf.enc_len]) (by simp [GConf.enc_len]) (by simp [GConf.enc_len])
  have e1 : x.enc = (([] : List Value) ++ (x.c.enc ++ ([(.int .i64 x.id)] ++ ([(.pointer x.b)] ++ ([(.bool x.started)]))))) ++ ([(.pointer x.s)] ++ ([(.pointer x.t)] ++ ([(.pointer x.l)] ++ ([(.pointer x.v)] ++ ([(.pointer x.a)] ++ ([(.pointer x.e)] ++ ([(x.decided.val)] ++ ([(x.replies.val)] ++ ([(x.out.val)] ++ (([] : List Value))))))))))) := by simp only [GReplicaReplica.enc, List.nil_append, List.append_assoc, List.append_nil]
  have e2 : ({ x with s := v } : GReplicaReplica).enc = (([] : List Value) ++ (x.c.enc ++ ([(.int .i64 x.id)] ++ ([(.pointer x.b)] ++ ([(.bool x.started)]))))) ++ ([(.pointer v)] ++ ([(.pointer x.t)] ++ ([(.pointer x.l)] ++ ([(.pointer x.v)] ++ ([(.pointer x.a)] ++ ([(.pointer x.e)] ++ ([(x.decided.val)] ++ ([(x.replies.val)] ++ ([(x.out.val)] ++ (([] : List Value))))))))))) := by simp only [GReplicaReplica.enc, List.nil_append, List.append_assoc, List.append_nil]
  rw [e1, e2]; exact h
theorem fs103_5 (x : GReplicaReplica) (v : Option Addr) (rest : List (Nat × Value)) : Instr.fill (fun i => ([(0, 2), (2, 1), (3, 1), (4, 1), (5, 1), (6, 1), (7, 1), (8, 1), (9, 1), (10, 1), (11, 1), (12, 1), (13, 1)] : List (Nat × Nat))[i]?) x.enc.toArray ((5, (.pointer v)) :: rest) = Instr.fill (fun i => ([(0, 2), (2, 1), (3, 1), (4, 1), (5, 1), (6, 1), (7, 1), (8, 1), (9, 1), (10, 1), (11, 1), (12, 1), (13, 1)] : List (Nat × Nat))[i]?) ({ x with t := v } : GReplicaReplica).enc.toArray rest := by
  have h := fill_seg [(0, 2), (2, 1), (3, 1), (4, 1), (5, 1), (6, 1), (7, 1), (8, 1), (9, 1), (10, 1), (11, 1), (12, 1), (13, 1)] 5 6 1 rfl (([] : List Value) ++ (x.c.enc ++ ([(.int .i64 x.id)] ++ ([(.pointer x.b)] ++ ([(.bool x.started)] ++ ([(.pointer x.s)])))))) ([(.pointer x.t)]) ([(.pointer x.l)] ++ ([(.pointer x.v)] ++ ([(.pointer x.a)] ++ ([(.pointer x.e)] ++ ([(x.decided.val)] ++ ([(x.replies.val)] ++ ([(x.out.val)] ++ (([] : List Value))))))))) ([(.pointer v)]) (.pointer v) rest (rfl) (by simp [GConf.enc_len]) (by simp [GConf.enc_len]) (by simp [GConf.enc_len])
  have e1 : x.enc = (([] : List Value) ++ (x.c.enc ++ ([(.int .i64 x.id)] ++ ([(.pointer x.b)] ++ ([(.bool x.started)] ++ ([(.pointer x.s)])))))) ++ ([(.pointer x.t)] ++ ([(.pointer x.l)] ++ ([(.pointer x.v)] ++ ([(.pointer x.a)] ++ ([(.pointer x.e)] ++ ([(x.decided.val)] ++ ([(x.replies.val)] ++ ([(x.out.val)] ++ (([] : List Value)))))))))) := by simp only [GReplicaReplica.enc, List.nil_append, List.append_assoc, List.append_nil]
  have e2 : ({ x with t := v } : GReplicaReplica).enc = (([] : List Value) ++ (x.c.enc ++ ([(.int .i64 x.id)] ++ ([(.pointer x.b)] ++ ([(.bool x.started)] ++ ([(.pointer x.s)])))))) ++ ([(.pointer v)] ++ ([(.pointer x.l)] ++ ([(.pointer x.v)] ++ ([(.pointer x.a)] ++ ([(.pointer x.e)] ++ ([(x.decided.val)] ++ ([(x.replies.val)] ++ ([(x.out.val)] ++ (([] : List Value)))))))))) := by simp only [GReplicaReplica.enc, List.nil_append, List.append_assoc, List.append_nil]
  rw [e1, e2]; exact h
theorem fs103_6 (x : GReplicaReplica) (v : Option Addr) (rest : List (Nat × Value)) : Instr.fill (fun i => ([(0, 2), (2, 1), (3, 1), (4, 1), (5, 1), (6, 1), (7, 1), (8, 1), (9, 1), (10, 1), (11, 1), (12, 1), (13, 1)] : List (Nat × Nat))[i]?) x.enc.toArray ((6, (.pointer v)) :: rest) = Instr.fill (fun i => ([(0, 2), (2, 1), (3, 1), (4, 1), (5, 1), (6, 1), (7, 1), (8, 1), (9, 1), (10, 1), (11, 1), (12, 1), (13, 1)] : List (Nat × Nat))[i]?) ({ x with l := v } : GReplicaReplica).enc.toArray rest := by
  have h := fill_seg [(0, 2), (2, 1), (3, 1), (4, 1), (5, 1), (6, 1), (7, 1), (8, 1), (9, 1), (10, 1), (11, 1), (12, 1), (13, 1)] 6 7 1 rfl (([] : List Value) ++ (x.c.enc ++ ([(.int .i64 x.id)] ++ ([(.pointer x.b)] ++ ([(.bool x.started)] ++ ([(.pointer x.s)] ++ ([(.pointer x.t)]))))))) ([(.pointer x.l)]) ([(.pointer x.v)] ++ ([(.pointer x.a)] ++ ([(.pointer x.e)] ++ ([(x.decided.val)] ++ ([(x.replies.val)] ++ ([(x.out.val)] ++ (([] : List Value)))))))) ([(.pointer v)]) (.pointer v) rest (rfl) (by simp [GConf.enc_len]) (by simp [GConf.enc_len]) (by simp [GConf.enc_len])
  have e1 : x.enc = (([] : List Value) ++ (x.c.enc ++ ([(.int .i64 x.id)] ++ ([(.pointer x.b)] ++ ([(.bool x.started)] ++ ([(.pointer x.s)] ++ ([(.pointer x.t)]))))))) ++ ([(.pointer x.l)] ++ ([(.pointer x.v)] ++ ([(.pointer x.a)] ++ ([(.pointer x.e)] ++ ([(x.decided.val)] ++ ([(x.replies.val)] ++ ([(x.out.val)] ++ (([] : List Value))))))))) := by simp only [GReplicaReplica.enc, List.nil_append, List.append_assoc, List.append_nil]
  have e2 : ({ x with l := v } : GReplicaReplica).enc = (([] : List Value) ++ (x.c.enc ++ ([(.int .i64 x.id)] ++ ([(.pointer x.b)] ++ ([(.bool x.started)] ++ ([(.pointer x.s)] ++ ([(.pointer x.t)]))))))) ++ ([(.pointer v)] ++ ([(.pointer x.v)] ++ ([(.pointer x.a)] ++ ([(.pointer x.e)] ++ ([(x.decided.val)] ++ ([(x.replies.val)] ++ ([(x.out.val)] ++ (([] : List Value))))))))) := by simp only [GReplicaReplica.enc, List.nil_append, List.append_assoc, List.append_nil]
  rw [e1, e2]; exact h
theorem fs103_7 (x : GReplicaReplica) (v : Option Addr) (rest : List (Nat × Value)) : Instr.fill (fun i => ([(0, 2), (2, 1), (3, 1), (4, 1), (5, 1), (6, 1), (7, 1), (8, 1), (9, 1), (10, 1), (11, 1), (12, 1), (13, 1)] : List (Nat × Nat))[i]?) x.enc.toArray ((7, (.pointer v)) :: rest) = Instr.fill (fun i => ([(0, 2), (2, 1), (3, 1), (4, 1), (5, 1), (6, 1), (7, 1), (8, 1), (9, 1), (10, 1), (11, 1), (12, 1), (13, 1)] : List (Nat × Nat))[i]?) ({ x with v := v } : GReplicaReplica).enc.toArray rest := by
  have h := fill_seg [(0, 2), (2, 1), (3, 1), (4, 1), (5, 1), (6, 1), (7, 1), (8, 1), (9, 1), (10, 1), (11, 1), (12, 1), (13, 1)] 7 8 1 rfl (([] : List Value) ++ (x.c.enc ++ ([(.int .i64 x.id)] ++ ([(.pointer x.b)] ++ ([(.bool x.started)] ++ ([(.pointer x.s)] ++ ([(.pointer x.t)] ++ ([(.pointer x.l)])))))))) ([(.pointer x.v)]) ([(.pointer x.a)] ++ ([(.pointer x.e)] ++ ([(x.decided.val)] ++ ([(x.replies.val)] ++ ([(x.out.val)] ++ (([] : List Value))))))) ([(.pointer v)]) (.pointer v) rest (rfl) (by simp [GConf.enc_len]) (by simp [GConf.enc_len]) (by simp [GConf.enc_len])
  have e1 : x.enc = (([] : List Value) ++ (x.c.enc ++ ([(.int .i64 x.id)] ++ ([(.pointer x.b)] ++ ([(.bool x.started)] ++ ([(.pointer x.s)] ++ ([(.pointer x.t)] ++ ([(.pointer x.l)])))))))) ++ ([(.pointer x.v)] ++ ([(.pointer x.a)] ++ ([(.pointer x.e)] ++ ([(x.decided.val)] ++ ([(x.replies.val)] ++ ([(x.out.val)] ++ (([] : List Value)))))))) := by simp only [GReplicaReplica.enc, List.nil_append, List.append_assoc, List.append_nil]
  have e2 : ({ x with v := v } : GReplicaReplica).enc = (([] : List Value) ++ (x.c.enc ++ ([(.int .i64 x.id)] ++ ([(.pointer x.b)] ++ ([(.bool x.started)] ++ ([(.pointer x.s)] ++ ([(.pointer x.t)] ++ ([(.pointer x.l)])))))))) ++ ([(.pointer v)] ++ ([(.pointer x.a)] ++ ([(.pointer x.e)] ++ ([(x.decided.val)] ++ ([(x.replies.val)] ++ ([(x.out.val)] ++ (([] : List Value)))))))) := by simp only [GReplicaReplica.enc, List.nil_append, List.append_assoc, List.append_nil]
  rw [e1, e2]; exact h
theorem fs103_8 (x : GReplicaReplica) (v : Option Addr) (rest : List (Nat × Value)) : Instr.fill (fun i => ([(0, 2), (2, 1), (3, 1), (4, 1), (5, 1), (6, 1), (7, 1), (8, 1), (9, 1), (10, 1), (11, 1), (12, 1), (13, 1)] : List (Nat × Nat))[i]?) x.enc.toArray ((8, (.pointer v)) :: rest) = Instr.fill (fun i => ([(0, 2), (2, 1), (3, 1), (4, 1), (5, 1), (6, 1), (7, 1), (8, 1), (9, 1), (10, 1), (11, 1), (12, 1), (13, 1)] : List (Nat × Nat))[i]?) ({ x with a := v } : GReplicaReplica).enc.toArray rest := by
  have h := fill_seg [(0, 2), (2, 1), (3, 1), (4, 1), (5, 1), (6, 1), (7, 1), (8, 1), (9, 1), (10, 1), (11, 1), (12, 1), (13, 1)] 8 9 1 rfl (([] : List Value) ++ (x.c.enc ++ ([(.int .i64 x.id)] ++ ([(.pointer x.b)] ++ ([(.bool x.started)] ++ ([(.pointer x.s)] ++ ([(.pointer x.t)] ++ ([(.pointer x.l)] ++ ([(.pointer x.v)]))))))))) ([(.pointer x.a)]) ([(.pointer x.e)] ++ ([(x.decided.val)] ++ ([(x.replies.val)] ++ ([(x.out.val)] ++ (([] : List Value)))))) ([(.pointer v)]) (.pointer v) rest (rfl) (by simp [GConf.enc_len]) (by simp [GConf.enc_len]) (by simp [GConf.enc_len])
  have e1 : x.enc = (([] : List Value) ++ (x.c.enc ++ ([(.int .i64 x.id)] ++ ([(.pointer x.b)] ++ ([(.bool x.started)] ++ ([(.pointer x.s)] ++ ([(.pointer x.t)] ++ ([(.pointer x.l)] ++ ([(.pointer x.v)]))))))))) ++ ([(.pointer x.a)] ++ ([(.pointer x.e)] ++ ([(x.decided.val)] ++ ([(x.replies.val)] ++ ([(x.out.val)] ++ (([] : List Value))))))) := by simp only [GReplicaReplica.enc, List.nil_append, List.append_assoc, List.append_nil]
  have e2 : ({ x with a := v } : GReplicaReplica).enc = (([] : List Value) ++ (x.c.enc ++ ([(.int .i64 x.id)] ++ ([(.pointer x.b)] ++ ([(.bool x.started)] ++ ([(.pointer x.s)] ++ ([(.pointer x.t)] ++ ([(.pointer x.l)] ++ ([(.pointer x.v)]))))))))) ++ ([(.pointer v)] ++ ([(.pointer x.e)] ++ ([(x.decided.val)] ++ ([(x.replies.val)] ++ ([(x.out.val)] ++ (([] : List Value))))))) := by simp only [GReplicaReplica.enc, List.nil_append, List.append_assoc, List.append_nil]
  rw [e1, e2]; exact h
@[go_sem ↓ high] theorem xd_GReplicaReplica (ρ : Operand → Value) (dst : Option Tmp) (ps : Array (Nat × Operand)) (ty : TypeId) (pos : String) (after : Array Edge) (guard : Option (Nat × Bool)) : execOp ρ { dst, op := .build 103 ps, type := ty, pos, after, guard } = (do pure (.value (← gBuild 103 (ps.map fun (i, x) => (i, ρ x))))) := ex_build ..
@[go_sem ↓ high] theorem bd103_0 (w : World) (v0 : GConf) (v1 : Int) (v2 : Option Addr) (v4 : Option Addr) (v5 : Option Addr) (v6 : Option Addr) (v7 : Option Addr) (v8 : Option Addr) : (gBuild 103 #[(0, (v0.val)), (1, (.int .i64 v1)), (2, (.pointer v2)), (4, (.pointer v4)), (5, (.pointer v5)), (6, (.pointer v6)), (7, (.pointer v7)), (8, (.pointer v8))]).run Tryz.prog w = .ok (GReplicaReplica.val ⟨v0, v1, v2, false, v4, v5, v6, v7, v8, none, default, default, default⟩) w := by
  rw [GReplicaReplica.val_eq]
  refine run_gBuild_of uu103 zr103 pl103 ?_ w
  show Instr.fill _ (GReplicaReplica.enc default).toArray [(0, (v0.val)), (1, (.int .i64 v1)), (2, (.pointer v2)), (4, (.pointer v4)), (5, (.pointer v5)), (6, (.pointer v6)), (7, (.pointer v7)), (8, (.pointer v8))] = _
  rw [fs103_0, fs103_1, fs103_2, fs103_4, fs103_5, fs103_6, fs103_7, fs103_8]; rfl

/-! ### gavel/replica.epoch -/
structure GReplicaEpoch where
  k : Option Addr
  batches : Option Nat
  precommits : Option Nat
  timers : Hdr
  asks : Bool
  askRound : Int
  askTime : Int
  promises : Hdr
  proposal : Option Addr
  prevote : Option Addr
  precommit : Option Addr
deriving DecidableEq
instance : Inhabited GReplicaEpoch := ⟨⟨none, none, none, default, false, 0, 0, default, none, none, none⟩⟩
def GReplicaEpoch.enc (x : GReplicaEpoch) : List Value := [(.pointer x.k)] ++ ([(.map x.batches)] ++ ([(.map x.precommits)] ++ ([(x.timers.val)] ++ ([(.bool x.asks)] ++ ([(.int .i64 x.askRound)] ++ ([(.int .u64 x.askTime)] ++ ([(x.promises.val)] ++ ([(.pointer x.proposal)] ++ ([(.pointer x.prevote)] ++ ([(.pointer x.precommit)]))))))))))
theorem GReplicaEpoch.enc_len (x : GReplicaEpoch) : x.enc.length = 11 := by simp [GReplicaEpoch.enc]
theorem GReplicaEpoch.enc_one (x : GReplicaEpoch) : ∀ u ∈ x.enc, u.oneCell' = true := by
  intro u hu
  simp only [GReplicaEpoch.enc, List.mem_append, List.mem_singleton] at hu
  rcases hu with hu | hu | hu | hu | hu | hu | hu | hu | hu | hu | hu
  · subst hu; rfl
  · subst hu; rfl
  · subst hu; rfl
  · subst hu; rfl
  · subst hu; rfl
  · subst hu; rfl
  · subst hu; rfl
  · subst hu; rfl
  · subst hu; rfl
  · subst hu; rfl
  · subst hu; rfl
theorem GReplicaEpoch.enc_inj (x y : GReplicaEpoch) (h : x.enc = y.enc) : x = y := by
  obtain ⟨a0, a1, a2, a3, a4, a5, a6, a7, a8, a9, a10⟩ := x
  obtain ⟨b0, b1, b2, b3, b4, b5, b6, b7, b8, b9, b10⟩ := y
  simp only [GReplicaEpoch.enc] at h
  obtain ⟨p0, q0⟩ := List.append_inj h (rfl)
  have e0 : a0 = b0 := by have := List.head_eq_of_cons_eq p0; injection this
  obtain ⟨p1, q1⟩ := List.append_inj q0 (rfl)
  have e1 : a1 = b1 := by have := List.head_eq_of_cons_eq p1; injection this
  obtain ⟨p2, q2⟩ := List.append_inj q1 (rfl)
  have e2 : a2 = b2 := by have := List.head_eq_of_cons_eq p2; injection this
  obtain ⟨p3, q3⟩ := List.append_inj q2 (rfl)
  have e3 : a3 = b3 := Enc.inj (α := Hdr) _ _ p3
  obtain ⟨p4, q4⟩ := List.append_inj q3 (rfl)
  have e4 : a4 = b4 := by have := List.head_eq_of_cons_eq p4; injection this
  obtain ⟨p5, q5⟩ := List.append_inj q4 (rfl)
  have e5 : a5 = b5 := by have := List.head_eq_of_cons_eq p5; injection this
  obtain ⟨p6, q6⟩ := List.append_inj q5 (rfl)
  have e6 : a6 = b6 := by have := List.head_eq_of_cons_eq p6; injection this
  obtain ⟨p7, q7⟩ := List.append_inj q6 (rfl)
  have e7 : a7 = b7 := Enc.inj (α := Hdr) _ _ p7
  obtain ⟨p8, q8⟩ := List.append_inj q7 (rfl)
  have e8 : a8 = b8 := by have := List.head_eq_of_cons_eq p8; injection this
  obtain ⟨p9, q9⟩ := List.append_inj q8 (rfl)
  have e9 : a9 = b9 := by have := List.head_eq_of_cons_eq p9; injection this
  have e10 : a10 = b10 := by have := List.head_eq_of_cons_eq q9; injection this
  rw [e0, e1, e2, e3, e4, e5, e6, e7, e8, e9, e10]
instance : Enc GReplicaEpoch where
  n := 11
  enc := GReplicaEpoch.enc
  pos := by omega
  len := GReplicaEpoch.enc_len
  one := GReplicaEpoch.enc_one
  inj := GReplicaEpoch.enc_inj
@[go_sem] theorem GReplicaEpoch.n_eq : Enc.n GReplicaEpoch = 11 := rfl
@[irreducible] def GReplicaEpoch.val (x : GReplicaEpoch) : Value := .agg x.enc.toArray
theorem GReplicaEpoch.val_eq (x : GReplicaEpoch) : GReplicaEpoch.val x = .agg (Enc.enc x).toArray := by unfold GReplicaEpoch.val; rfl
theorem GReplicaEpoch.ext_all (x y : GReplicaEpoch) : x = y ↔ x.k = y.k ∧ x.batches = y.batches ∧ x.precommits = y.precommits ∧ x.timers = y.timers ∧ x.asks = y.asks ∧ x.askRound = y.askRound ∧ x.askTime = y.askTime ∧ x.promises = y.promises ∧ x.proposal = y.proposal ∧ x.prevote = y.prevote ∧ x.precommit = y.precommit := by
  constructor
  · intro h; cases h; simp
  · intro h; cases x; cases y; simp_all
theorem uu116 : Tryz.prog.underlying 116 = some (.struct (Tryz.prog.fieldsOf 116)) := by kernel_rfl
theorem st116 : Tryz.prog.stoodInHeld 116 = false := by kernel_rfl
theorem fl116 : fieldTO Tryz.prog 116 = [(109, 0), (110, 1), (111, 2), (112, 3), (4, 4), (3, 5), (42, 6), (53, 7), (113, 8), (114, 9), (114, 10)] := by kernel_rfl
theorem nb116 : noBlank Tryz.prog 116 = true := by kernel_rfl
@[go_sem ↓ high] theorem xl_GReplicaEpoch (ρ : Operand → Value) (dst : Option Tmp) (x : Operand) (ty : TypeId) (pos : String) (after : Array Edge) (guard : Option (Nat × Bool)) : execOp ρ { dst, op := .load 116 x, type := ty, pos, after, guard } = (do pure (.value (← gLoad 116 (ρ x)))) := ex_load ..
@[go_sem ↓ high] theorem xs_GReplicaEpoch (ρ : Operand → Value) (dst : Option Tmp) (x y : Operand) (ty : TypeId) (pos : String) (after : Array Edge) (guard : Option (Nat × Bool)) : execOp ρ { dst, op := .store 116 x y, type := ty, pos, after, guard } = (do gStore 116 (ρ x) (ρ y); pure .skip) := ex_store ..
@[go_sem ↓ high] theorem xb_GReplicaEpoch (ρ : Operand → Value) (dst : Option Tmp) (x : Operand) (ty : TypeId) (pos : String) (after : Array Edge) (guard : Option (Nat × Bool)) : execOp ρ { dst, op := .box 116 x, type := ty, pos, after, guard } = (do pure (.value (← gBox 116 (ρ x)))) := ex_box ..
@[go_sem ↓ high] theorem xa_GReplicaEpoch (ρ : Operand → Value) (dst : Option Tmp) (ty : TypeId) (pos : String) (after : Array Edge) (guard : Option (Nat × Bool)) : execOp ρ { dst, op := .alloc 116, type := ty, pos, after, guard } = (do pure (.value (← gAlloc 116))) := ex_alloc ..
theorem ag116 : aggT Tryz.prog 116 = true := by kernel_rfl
theorem sz116 : sizeT Tryz.prog 116 = 11 := by kernel_rfl
section
variable (w : World)
@[go_sem ↓ high] theorem ld_GReplicaEpoch (a : Addr) : (gLoad 116 (.pointer (some a))).run Tryz.prog w = ofOpt ((get? GReplicaEpoch w a).map GReplicaEpoch.val) w (noLoad Tryz.prog 116 a w) := by
  unfold gLoad; exact run_loadAt_opt ag116 sz116 GReplicaEpoch.val GReplicaEpoch.val_eq
@[go_sem ↓ high] theorem st_GReplicaEpoch (a : Addr) (x : GReplicaEpoch) : (gStore 116 (.pointer (some a)) (GReplicaEpoch.val x)).run Tryz.prog w = okU' ((get? GReplicaEpoch w a).isSome && blkFree w a.block) (World.putCells w a (GReplicaEpoch.enc x)) (noStore Tryz.prog 116 (.pointer (some a)) (GReplicaEpoch.val x) w) := run_gStore_any sz116 GReplicaEpoch.val GReplicaEpoch.val_eq w a x
@[go_sem ↓ high] theorem bx_GReplicaEpoch (x : GReplicaEpoch) : (gBox 116 (GReplicaEpoch.val x)).run Tryz.prog w = .ok (.pointer (some ⟨w.heap.size, 0, none⟩)) (w.alloc (.cells (GReplicaEpoch.enc x).toArray 116)) := by
  rw [GReplicaEpoch.val_eq]; exact run_gBox _ w
end
theorem lk116_0 (x : GReplicaEpoch) : x.enc[0]? = some (.pointer x.k) := by
  simp [GReplicaEpoch.enc, List.getElem?_append]
theorem pt116_0 (w : World) (x : GReplicaEpoch) : (part 109 x.enc.toArray 0).run Tryz.prog w = .ok (.pointer x.k) w := run_part_one na109 us109 (lk116_0 x)
@[go_sem ↓ high] theorem fd116_0 (w : World) (x : GReplicaEpoch) : (gField 116 (GReplicaEpoch.val x) 0).run Tryz.prog w = .ok (.pointer x.k) w := by
  rw [GReplicaEpoch.val_eq]
  exact run_gField w uu116 (by rw [fl116]; rfl) (pt116_0 w x)
theorem lk116_1 (x : GReplicaEpoch) : x.enc[1]? = some (.map x.batches) := by
  simp [GReplicaEpoch.enc, List.getElem?_append]
theorem pt116_1 (w : World) (x : GReplicaEpoch) : (part 110 x.enc.toArray 1).run Tryz.prog w = .ok (.map x.batches) w := run_part_one na110 us110 (lk116_1 x)
@[go_sem ↓ high] theorem fd116_1 (w : World) (x : GReplicaEpoch) : (gField 116 (GReplicaEpoch.val x) 1).run Tryz.prog w = .ok (.map x.batches) w := by
  rw [GReplicaEpoch.val_eq]
  exact run_gField w uu116 (by rw [fl116]; rfl) (pt116_1 w x)
theorem lk116_2 (x : GReplicaEpoch) : x.enc[2]? = some (.map x.precommits) := by
  simp [GReplicaEpoch.enc, List.getElem?_append]
theorem pt116_2 (w : World) (x : GReplicaEpoch) : (part 111 x.enc.toArray 2).run Tryz.prog w = .ok (.map x.precommits) w := run_part_one na111 us111 (lk116_2 x)
@[go_sem ↓ high] theorem fd116_2 (w : World) (x : GReplicaEpoch) : (gField 116 (GReplicaEpoch.val x) 2).run Tryz.prog w = .ok (.map x.precommits) w := by
  rw [GReplicaEpoch.val_eq]
  exact run_gField w uu116 (by rw [fl116]; rfl) (pt116_2 w x)
theorem lk116_3 (x : GReplicaEpoch) : x.enc[3]? = some (x.timers.val) := by
  simp [GReplicaEpoch.enc, List.getElem?_append]
theorem pt116_3 (w : World) (x : GReplicaEpoch) : (part 112 x.enc.toArray 3).run Tryz.prog w = .ok (x.timers.val) w := run_part_one na112 us112 (lk116_3 x)
@[go_sem ↓ high] theorem fd116_3 (w : World) (x : GReplicaEpoch) : (gField 116 (GReplicaEpoch.val x) 3).run Tryz.prog w = .ok (x.timers.val) w := by
  rw [GReplicaEpoch.val_eq]
  exact run_gField w uu116 (by rw [fl116]; rfl) (pt116_3 w x)
theorem lk116_4 (x : GReplicaEpoch) : x.enc[4]? = some (.bool x.asks) := by
  simp [GReplicaEpoch.enc, List.getElem?_append]
theorem pt116_4 (w : World) (x : GReplicaEpoch) : (part 4 x.enc.toArray 4).run Tryz.prog w = .ok (.bool x.asks) w := run_part_one na4 us4 (lk116_4 x)
@[go_sem ↓ high] theorem fd116_4 (w : World) (x : GReplicaEpoch) : (gField 116 (GReplicaEpoch.val x) 4).run Tryz.prog w = .ok (.bool x.asks) w := by
  rw [GReplicaEpoch.val_eq]
  exact run_gField w uu116 (by rw [fl116]; rfl) (pt116_4 w x)
theorem lk116_5 (x : GReplicaEpoch) : x.enc[5]? = some (.int .i64 x.askRound) := by
  simp [GReplicaEpoch.enc, List.getElem?_append]
theorem pt116_5 (w : World) (x : GReplicaEpoch) : (part 3 x.enc.toArray 5).run Tryz.prog w = .ok (.int .i64 x.askRound) w := run_part_one na3 us3 (lk116_5 x)
@[go_sem ↓ high] theorem fd116_5 (w : World) (x : GReplicaEpoch) : (gField 116 (GReplicaEpoch.val x) 5).run Tryz.prog w = .ok (.int .i64 x.askRound) w := by
  rw [GReplicaEpoch.val_eq]
  exact run_gField w uu116 (by rw [fl116]; rfl) (pt116_5 w x)
theorem lk116_6 (x : GReplicaEpoch) : x.enc[6]? = some (.int .u64 x.askTime) := by
  simp [GReplicaEpoch.enc, List.getElem?_append]
theorem pt116_6 (w : World) (x : GReplicaEpoch) : (part 42 x.enc.toArray 6).run Tryz.prog w = .ok (.int .u64 x.askTime) w := run_part_one na42 us42 (lk116_6 x)
@[go_sem ↓ high] theorem fd116_6 (w : World) (x : GReplicaEpoch) : (gField 116 (GReplicaEpoch.val x) 6).run Tryz.prog w = .ok (.int .u64 x.askTime) w := by
  rw [GReplicaEpoch.val_eq]
  exact run_gField w uu116 (by rw [fl116]; rfl) (pt116_6 w x)
theorem lk116_7 (x : GReplicaEpoch) : x.enc[7]? = some (x.promises.val) := by
  simp [GReplicaEpoch.enc, List.getElem?_append]
theorem pt116_7 (w : World) (x : GReplicaEpoch) : (part 53 x.enc.toArray 7).run Tryz.prog w = .ok (x.promises.val) w := run_part_one na53 us53 (lk116_7 x)
@[go_sem ↓ high] theorem fd116_7 (w : World) (x : GReplicaEpoch) : (gField 116 (GReplicaEpoch.val x) 7).run Tryz.prog w = .ok (x.promises.val) w := by
  rw [GReplicaEpoch.val_eq]
  exact run_gField w uu116 (by rw [fl116]; rfl) (pt116_7 w x)
theorem lk116_8 (x : GReplicaEpoch) : x.enc[8]? = some (.pointer x.proposal) := by
  simp [GReplicaEpoch.enc, List.getElem?_append]
theorem pt116_8 (w : World) (x : GReplicaEpoch) : (part 113 x.enc.toArray 8).run Tryz.prog w = .ok (.pointer x.proposal) w := run_part_one na113 us113 (lk116_8 x)
@[go_sem ↓ high] theorem fd116_8 (w : World) (x : GReplicaEpoch) : (gField 116 (GReplicaEpoch.val x) 8).run Tryz.prog w = .ok (.pointer x.proposal) w := by
  rw [GReplicaEpoch.val_eq]
  exact run_gField w uu116 (by rw [fl116]; rfl) (pt116_8 w x)
theorem lk116_9 (x : GReplicaEpoch) : x.enc[9]? = some (.pointer x.prevote) := by
  simp [GReplicaEpoch.enc, List.getElem?_append]
theorem pt116_9 (w : World) (x : GReplicaEpoch) : (part 114 x.enc.toArray 9).run Tryz.prog w = .ok (.pointer x.prevote) w := run_part_one na114 us114 (lk116_9 x)
@[go_sem ↓ high] theorem fd116_9 (w : World) (x : GReplicaEpoch) : (gField 116 (GReplicaEpoch.val x) 9).run Tryz.prog w = .ok (.pointer x.prevote) w := by
  rw [GReplicaEpoch.val_eq]
  exact run_gField w uu116 (by rw [fl116]; rfl) (pt116_9 w x)
theorem lk116_10 (x : GReplicaEpoch) : x.enc[10]? = some (.pointer x.precommit) := by
  simp [GReplicaEpoch.enc, List.getElem?_append]
theorem pt116_10 (w : World) (x : GReplicaEpoch) : (part 114 x.enc.toArray 10).run Tryz.prog w = .ok (.pointer x.precommit) w := run_part_one na114 us114 (lk116_10 x)
@[go_sem ↓ high] theorem fd116_10 (w : World) (x : GReplicaEpoch) : (gField 116 (GReplicaEpoch.val x) 10).run Tryz.prog w = .ok (.pointer x.precommit) w := by
  rw [GReplicaEpoch.val_eq]
  exact run_gField w uu116 (by rw [fl116]; rfl) (pt116_10 w x)
@[go_sem ↓ high] theorem xf_GReplicaEpoch (ρ : Operand → Value) (dst : Option Tmp) (x : Operand) (i : Nat) (ty : TypeId) (pos : String) (after : Array Edge) (guard : Option (Nat × Bool)) : execOp ρ { dst, op := .field 116 x i, type := ty, pos, after, guard } = (do pure (.value (← gField 116 (ρ x) i))) := ex_field ..
theorem zr116 : zeroT Tryz.prog 116 = some (.agg (GReplicaEpoch.enc default).toArray) := by kernel_rfl
@[go_sem ↓ high] theorem al_GReplicaEpoch (w : World) : (gAlloc 116).run Tryz.prog w = .ok (.pointer (some ⟨w.heap.size, 0, none⟩)) (w.alloc (.cells (GReplicaEpoch.enc default).toArray 116)) := run_zero_alloc zr116 w
@[go_sem] theorem pc_GReplicaEpoch (w : World) (n : Nat) (x z : GReplicaEpoch) (hn : n = w.heap.size) : World.putCells (w.alloc (.cells (GReplicaEpoch.enc z).toArray 116)) ⟨n, 0, none⟩ (GReplicaEpoch.enc x) = w.alloc (.cells (GReplicaEpoch.enc x).toArray 116) := putCells_top x z hn
theorem GReplicaEpoch.at_k {w : World} {a : Addr} {x : GReplicaEpoch} (h : get? GReplicaEpoch w a = some x) : w.cell? (a.add 0) = some (.pointer x.k) := (get?_iff.1 h) _ _ (lk116_0 x)
theorem GReplicaEpoch.at_batches {w : World} {a : Addr} {x : GReplicaEpoch} (h : get? GReplicaEpoch w a = some x) : w.cell? (a.add 1) = some (.map x.batches) := (get?_iff.1 h) _ _ (lk116_1 x)
theorem GReplicaEpoch.at_precommits {w : World} {a : Addr} {x : GReplicaEpoch} (h : get? GReplicaEpoch w a = some x) : w.cell? (a.add 2) = some (.map x.precommits) := (get?_iff.1 h) _ _ (lk116_2 x)
theorem GReplicaEpoch.at_timers {w : World} {a : Addr} {x : GReplicaEpoch} (h : get? GReplicaEpoch w a = some x) : w.cell? (a.add 3) = some (x.timers.val) := (get?_iff.1 h) _ _ (lk116_3 x)
theorem GReplicaEpoch.at_asks {w : World} {a : Addr} {x : GReplicaEpoch} (h : get? GReplicaEpoch w a = some x) : w.cell? (a.add 4) = some (.bool x.asks) := (get?_iff.1 h) _ _ (lk116_4 x)
theorem GReplicaEpoch.at_askRound {w : World} {a : Addr} {x : GReplicaEpoch} (h : get? GReplicaEpoch w a = some x) : w.cell? (a.add 5) = some (.int .i64 x.askRound) := (get?_iff.1 h) _ _ (lk116_5 x)
theorem GReplicaEpoch.at_askTime {w : World} {a : Addr} {x : GReplicaEpoch} (h : get? GReplicaEpoch w a = some x) : w.cell? (a.add 6) = some (.int .u64 x.askTime) := (get?_iff.1 h) _ _ (lk116_6 x)
theorem GReplicaEpoch.at_promises {w : World} {a : Addr} {x : GReplicaEpoch} (h : get? GReplicaEpoch w a = some x) : w.cell? (a.add 7) = some (x.promises.val) := (get?_iff.1 h) _ _ (lk116_7 x)
theorem GReplicaEpoch.at_proposal {w : World} {a : Addr} {x : GReplicaEpoch} (h : get? GReplicaEpoch w a = some x) : w.cell? (a.add 8) = some (.pointer x.proposal) := (get?_iff.1 h) _ _ (lk116_8 x)
theorem GReplicaEpoch.at_prevote {w : World} {a : Addr} {x : GReplicaEpoch} (h : get? GReplicaEpoch w a = some x) : w.cell? (a.add 9) = some (.pointer x.prevote) := (get?_iff.1 h) _ _ (lk116_9 x)
theorem GReplicaEpoch.at_precommit {w : World} {a : Addr} {x : GReplicaEpoch} (h : get? GReplicaEpoch w a = some x) : w.cell? (a.add 10) = some (.pointer x.precommit) := (get?_iff.1 h) _ _ (lk116_10 x)
@[go_sem] theorem nl116_0 (x : GReplicaEpoch) : x.enc[0]? = some (.pointer x.k) := by
  have h := (GReplicaEpoch.at_k (get?_new (w := (default : World)) 116 x))
  simp only [Addr.add_lit, Nat.zero_add, Nat.reduceAdd, World.cell?_alloc_new, List.getElem?_toArray] at h
  exact h
@[go_sem] theorem nl116_1 (x : GReplicaEpoch) : x.enc[1]? = some (.map x.batches) := by
  have h := (GReplicaEpoch.at_batches (get?_new (w := (default : World)) 116 x))
  simp only [Addr.add_lit, Nat.zero_add, Nat.reduceAdd, World.cell?_alloc_new, List.getElem?_toArray] at h
  exact h
@[go_sem] theorem nl116_2 (x : GReplicaEpoch) : x.enc[2]? = some (.map x.precommits) := by
  have h := (GReplicaEpoch.at_precommits (get?_new (w := (default : World)) 116 x))
  simp only [Addr.add_lit, Nat.zero_add, Nat.reduceAdd, World.cell?_alloc_new, List.getElem?_toArray] at h
  exact h
@[go_sem] theorem nl116_3 (x : GReplicaEpoch) : x.enc[3]? = some (x.timers.val) := by
  have h := (GReplicaEpoch.at_timers (get?_new (w := (default : World)) 116 x))
  simp only [Addr.add_lit, Nat.zero_add, Nat.reduceAdd, World.cell?_alloc_new, List.getElem?_toArray] at h
  exact h
@[go_sem] theorem nl116_4 (x : GReplicaEpoch) : x.enc[4]? = some (.bool x.asks) := by
  have h := (GReplicaEpoch.at_asks (get?_new (w := (default : World)) 116 x))
  simp only [Addr.add_lit, Nat.zero_add, Nat.reduceAdd, World.cell?_alloc_new, List.getElem?_toArray] at h
  exact h
@[go_sem] theorem nl116_5 (x : GReplicaEpoch) : x.enc[5]? = some (.int .i64 x.askRound) := by
  have h := (GReplicaEpoch.at_askRound (get?_new (w := (default : World)) 116 x))
  simp only [Addr.add_lit, Nat.zero_add, Nat.reduceAdd, World.cell?_alloc_new, List.getElem?_toArray] at h
  exact h
@[go_sem] theorem nl116_6 (x : GReplicaEpoch) : x.enc[6]? = some (.int .u64 x.askTime) := by
  have h := (GReplicaEpoch.at_askTime (get?_new (w := (default : World)) 116 x))
  simp only [Addr.add_lit, Nat.zero_add, Nat.reduceAdd, World.cell?_alloc_new, List.getElem?_toArray] at h
  exact h
@[go_sem] theorem nl116_7 (x : GReplicaEpoch) : x.enc[7]? = some (x.promises.val) := by
  have h := (GReplicaEpoch.at_promises (get?_new (w := (default : World)) 116 x))
  simp only [Addr.add_lit, Nat.zero_add, Nat.reduceAdd, World.cell?_alloc_new, List.getElem?_toArray] at h
  exact h
@[go_sem] theorem nl116_8 (x : GReplicaEpoch) : x.enc[8]? = some (.pointer x.proposal) := by
  have h := (GReplicaEpoch.at_proposal (get?_new (w := (default : World)) 116 x))
  simp only [Addr.add_lit, Nat.zero_add, Nat.reduceAdd, World.cell?_alloc_new, List.getElem?_toArray] at h
  exact h
@[go_sem] theorem nl116_9 (x : GReplicaEpoch) : x.enc[9]? = some (.pointer x.prevote) := by
  have h := (GReplicaEpoch.at_prevote (get?_new (w := (default : World)) 116 x))
  simp only [Addr.add_lit, Nat.zero_add, Nat.reduceAdd, World.cell?_alloc_new, List.getElem?_toArray] at h
  exact h
@[go_sem] theorem nl116_10 (x : GReplicaEpoch) : x.enc[10]? = some (.pointer x.precommit) := by
  have h := (GReplicaEpoch.at_precommit (get?_new (w := (default : World)) 116 x))
  simp only [Addr.add_lit, Nat.zero_add, Nat.reduceAdd, World.cell?_alloc_new, List.getElem?_toArray] at h
  exact h
@[go_sem] theorem nw116 (w : World) (n : Nat) (x : GReplicaEpoch) (hn : n = w.heap.size) : get? GReplicaEpoch (w.alloc (.cells (GReplicaEpoch.enc x).toArray 116)) ⟨n, 0, none⟩ = some x := by
  subst hn; exact get?_new 116 x
theorem pl116 : ((Tryz.prog.fieldsOf 116).toList.mapM fun f => (Tryz.prog.info? f.type).map fun i => (f.offset, i.size)) = some [(0, 1), (1, 1), (2, 1), (3, 1), (4, 1), (5, 1), (6, 1), (7, 1), (8, 1), (9, 1), (10, 1)] := by kernel_rfl
theorem fs116_0 (x : GReplicaEpoch) (v : Option Addr) (rest : List (Nat × Value)) : Instr.fill (fun i => ([(0, 1), (1, 1), (2, 1), (3, 1), (4, 1), (5, 1), (6, 1), (7, 1), (8, 1), (9, 1), (10, 1)] : List (Nat × Nat))[i]?) x.enc.toArray ((0, (.pointer v)) :: rest) = Instr.fill (fun i => ([(0, 1), (1, 1), (2, 1), (3, 1), (4, 1), (5, 1), (6, 1), (7, 1), (8, 1), (9, 1), (10, 1)] : List (Nat × Nat))[i]?) ({ x with k := v } : GReplicaEpoch).enc.toArray rest := by
  have h := fill_seg [(0, 1), (1, 1), (2, 1), (3, 1), (4, 1), (5, 1), (6, 1), (7, 1), (8, 1), (9, 1), (10, 1)] 0 0 1 rfl (([] : List Value)) ([(.pointer x.k)]) ([(.map x.batches)] ++ ([(.map x.precommits)] ++ ([(x.timers.val)] ++ ([(.bool x.asks)] ++ ([(.int .i64 x.askRound)] ++ ([(.int .u64 x.askTime)] ++ ([(x.promises.val)] ++ ([(.pointer x.proposal)] ++ ([(.pointer x.prevote)] ++ ([(.pointer x.precommit)] ++ (([] : List Value)))))))))))) ([(.pointer v)]) (.pointer v) rest (rfl) (by simp) (by simp) (by simp)
  have e1 : x.enc = (([] : List Value)) ++ ([(.pointer x.k)] ++ ([(.map x.batches)] ++ ([(.map x.precommits)] ++ ([(x.timers.val)] ++ ([(.bool x.asks)] ++ ([(.int .i64 x.askRound)] ++ ([(.int .u64 x.askTime)] ++ ([(x.promises.val)] ++ ([(.pointer x.proposal)] ++ ([(.pointer x.prevote)] ++ ([(.pointer x.precommit)] ++ (([] : List Value))))))))))))) := by simp only [GReplicaEpoch.enc, List.nil_append, List.append_assoc, List.append_nil]
  have e2 : ({ x with k := v } : GReplicaEpoch).enc = (([] : List Value)) ++ ([(.pointer v)] ++ ([(.map x.batches)] ++ ([(.map x.precommits)] ++ ([(x.timers.val)] ++ ([(.bool x.asks)] ++ ([(.int .i64 x.askRound)] ++ ([(.int .u64 x.askTime)] ++ ([(x.promises.val)] ++ ([(.pointer x.proposal)] ++ ([(.pointer x.prevote)] ++ ([(.pointer x.precommit)] ++ (([] : List Value))))))))))))) := by simp only [GReplicaEpoch.enc, List.nil_append, List.append_assoc, List.append_nil]
  rw [e1, e2]; exact h
theorem fs116_1 (x : GReplicaEpoch) (v : Option Nat) (rest : List (Nat × Value)) : Instr.fill (fun i => ([(0, 1), (1, 1), (2, 1), (3, 1), (4, 1), (5, 1), (6, 1), (7, 1), (8, 1), (9, 1), (10, 1)] : List (Nat × Nat))[i]?) x.enc.toArray ((1, (.map v)) :: rest) = Instr.fill (fun i => ([(0, 1), (1, 1), (2, 1), (3, 1), (4, 1), (5, 1), (6, 1), (7, 1), (8, 1), (9, 1), (10, 1)] : List (Nat × Nat))[i]?) ({ x with batches := v } : GReplicaEpoch).enc.toArray rest := by
  have h := fill_seg [(0, 1), (1, 1), (2, 1), (3, 1), (4, 1), (5, 1), (6, 1), (7, 1), (8, 1), (9, 1), (10, 1)] 1 1 1 rfl (([] : List Value) ++ ([(.pointer x.k)])) ([(.map x.batches)]) ([(.map x.precommits)] ++ ([(x.timers.val)] ++ ([(.bool x.asks)] ++ ([(.int .i64 x.askRound)] ++ ([(.int .u64 x.askTime)] ++ ([(x.promises.val)] ++ ([(.pointer x.proposal)] ++ ([(.pointer x.prevote)] ++ ([(.pointer x.precommit)] ++ (([] : List Value))))))))))) ([(.map v)]) (.map v) rest (rfl) (by simp) (by simp) (by simp)
  have e1 : x.enc = (([] : List Value) ++ ([(.pointer x.k)])) ++ ([(.map x.batches)] ++ ([(.map x.precommits)] ++ ([(x.timers.val)] ++ ([(.bool x.asks)] ++ ([(.int .i64 x.askRound)] ++ ([(.int .u64 x.askTime)] ++ ([(x.promises.val)] ++ ([(.pointer x.proposal)] ++ ([(.pointer x.prevote)] ++ ([(.pointer x.precommit)] ++ (([] : List Value)))))))))))) := by simp only [GReplicaEpoch.enc, List.nil_append, List.append_assoc, List.append_nil]
  have e2 : ({ x with batches := v } : GReplicaEpoch).enc = (([] : List Value) ++ ([(.pointer x.k)])) ++ ([(.map v)] ++ ([(.map x.precommits)] ++ ([(x.timers.val)] ++ ([(.bool x.asks)] ++ ([(.int .i64 x.askRound)] ++ ([(.int .u64 x.askTime)] ++ ([(x.promises.val)] ++ ([(.pointer x.proposal)] ++ ([(.pointer x.prevote)] ++ ([(.pointer x.precommit)] ++ (([] : List Value)))))))))))) := by simp only [GReplicaEpoch.enc, List.nil_append, List.append_assoc, List.append_nil]
  rw [e1, e2]; exact h
theorem fs116_2 (x : GReplicaEpoch) (v : Option Nat) (rest : List (Nat × Value)) : Instr.fill (fun i => ([(0, 1), (1, 1), (2, 1), (3, 1), (4, 1), (5, 1), (6, 1), (7, 1), (8, 1), (9, 1), (10, 1)] : List (Nat × Nat))[i]?) x.enc.toArray ((2, (.map v)) :: rest) = Instr.fill (fun i => ([(0, 1), (1, 1), (2, 1), (3, 1), (4, 1), (5, 1), (6, 1), (7, 1), (8, 1), (9, 1), (10, 1)] : List (Nat × Nat))[i]?) ({ x with precommits := v } : GReplicaEpoch).enc.toArray rest := by
  have h := fill_seg [(0, 1), (1, 1), (2, 1), (3, 1), (4, 1), (5, 1), (6, 1), (7, 1), (8, 1), (9, 1), (10, 1)] 2 2 1 rfl (([] : List Value) ++ ([(.pointer x.k)] ++ ([(.map x.batches)]))) ([(.map x.precommits)]) ([(x.timers.val)] ++ ([(.bool x.asks)] ++ ([(.int .i64 x.askRound)] ++ ([(.int .u64 x.askTime)] ++ ([(x.promises.val)] ++ ([(.pointer x.proposal)] ++ ([(.pointer x.prevote)] ++ ([(.pointer x.precommit)] ++ (([] : List Value)))))))))) ([(.map v)]) (.map v) rest (rfl) (by simp) (by simp) (by simp)
  have e1 : x.enc = (([] : List Value) ++ ([(.pointer x.k)] ++ ([(.map x.batches)]))) ++ ([(.map x.precommits)] ++ ([(x.timers.val)] ++ ([(.bool x.asks)] ++ ([(.int .i64 x.askRound)] ++ ([(.int .u64 x.askTime)] ++ ([(x.promises.val)] ++ ([(.pointer x.proposal)] ++ ([(.pointer x.prevote)] ++ ([(.pointer x.precommit)] ++ (([] : List Value))))))))))) := by simp only [GReplicaEpoch.enc, List.nil_append, List.append_assoc, List.append_nil]
  have e2 : ({ x with precommits := v } : GReplicaEpoch).enc = (([] : List Value) ++ ([(.pointer x.k)] ++ ([(.map x.batches)]))) ++ ([(.map v)] ++ ([(x.timers.val)] ++ ([(.bool x.asks)] ++ ([(.int .i64 x.askRound)] ++ ([(.int .u64 x.askTime)] ++ ([(x.promises.val)] ++ ([(.pointer x.proposal)] ++ ([(.pointer x.prevote)] ++ ([(.pointer x.precommit)] ++ (([] : List Value))))))))))) := by simp only [GReplicaEpoch.enc, List.nil_append, List.append_assoc, List.append_nil]
  rw [e1, e2]; exact h
@[go_sem ↓ high] theorem xd_GReplicaEpoch (ρ : Operand → Value) (dst : Option Tmp) (ps : Array (Nat × Operand)) (ty : TypeId) (pos : String) (after : Array Edge) (guard : Option (Nat × Bool)) : execOp ρ { dst, op := .build 116 ps, type := ty, pos, after, guard } = (do pure (.value (← gBuild 116 (ps.map fun (i, x) => (i, ρ x))))) := ex_build ..
@[go_sem ↓ high] theorem bd116_0 (w : World) (v0 : Option Addr) (v1 : Option Nat) (v2 : Option Nat) : (gBuild 116 #[(0, (.pointer v0)), (1, (.map v1)), (2, (.map v2))]).run Tryz.prog w = .ok (GReplicaEpoch.val ⟨v0, v1, v2, default, false, 0, 0, default, none, none, none⟩) w := by
  rw [GReplicaEpoch.val_eq]
  refine run_gBuild_of uu116 zr116 pl116 ?_ w
  show Instr.fill _ (GReplicaEpoch.enc default).toArray [(0, (.pointer v0)), (1, (.map v1)), (2, (.map v2))] = _
  rw [fs116_0, fs116_1, fs116_2]; rfl

/-! ### gavel/api.Timer -/
structure GTimer where
  kind : Int
  round : Int
deriving DecidableEq
instance : Inhabited GTimer := ⟨⟨0, 0⟩⟩
def GTimer.enc (x : GTimer) : List Value := [(.int .i64 x.kind)] ++ ([(.int .i64 x.round)])
theorem GTimer.enc_len (x : GTimer) : x.enc.length = 2 := by simp [GTimer.enc]
theorem GTimer.enc_one (x : GTimer) : ∀ u ∈ x.enc, u.oneCell' = true := by
  intro u hu
  simp only [GTimer.enc, List.mem_append, List.mem_singleton] at hu
  rcases hu with hu | hu
  · subst hu; rfl
  · subst hu; rfl
theorem GTimer.enc_inj (x y : GTimer) (h : x.enc = y.enc) : x = y := by
  obtain ⟨a0, a1⟩ := x
  obtain ⟨b0, b1⟩ := y
  simp only [GTimer.enc] at h
  obtain ⟨p0, q0⟩ := List.append_inj h (rfl)
  have e0 : a0 = b0 := by have := List.head_eq_of_cons_eq p0; injection this
  have e1 : a1 = b1 := by have := List.head_eq_of_cons_eq q0; injection this
  rw [e0, e1]
instance : Enc GTimer where
  n := 2
  enc := GTimer.enc
  pos := by omega
  len := GTimer.enc_len
  one := GTimer.enc_one
  inj := GTimer.enc_inj
@[go_sem] theorem GTimer.n_eq : Enc.n GTimer = 2 := rfl
@[irreducible] def GTimer.val (x : GTimer) : Value := .agg x.enc.toArray
theorem GTimer.val_eq (x : GTimer) : GTimer.val x = .agg (Enc.enc x).toArray := by unfold GTimer.val; rfl
theorem GTimer.ext_all (x y : GTimer) : x = y ↔ x.kind = y.kind ∧ x.round = y.round := by
  constructor
  · intro h; cases h; simp
  · intro h; cases x; cases y; simp_all
theorem uu142 : Tryz.prog.underlying 142 = some (.struct (Tryz.prog.fieldsOf 142)) := by kernel_rfl
theorem st142 : Tryz.prog.stoodInHeld 142 = false := by kernel_rfl
theorem fl142 : fieldTO Tryz.prog 142 = [(3, 0), (3, 1)] := by kernel_rfl
theorem nb142 : noBlank Tryz.prog 142 = true := by kernel_rfl
@[go_sem ↓ high] theorem xl_GTimer (ρ : Operand → Value) (dst : Option Tmp) (x : Operand) (ty : TypeId) (pos : String) (after : Array Edge) (guard : Option (Nat × Bool)) : execOp ρ { dst, op := .load 142 x, type := ty, pos, after, guard } = (do pure (.value (← gLoad 142 (ρ x)))) := ex_load ..
@[go_sem ↓ high] theorem xs_GTimer (ρ : Operand → Value) (dst : Option Tmp) (x y : Operand) (ty : TypeId) (pos : String) (after : Array Edge) (guard : Option (Nat × Bool)) : execOp ρ { dst, op := .store 142 x y, type := ty, pos, after, guard } = (do gStore 142 (ρ x) (ρ y); pure .skip) := ex_store ..
@[go_sem ↓ high] theorem xb_GTimer (ρ : Operand → Value) (dst : Option Tmp) (x : Operand) (ty : TypeId) (pos : String) (after : Array Edge) (guard : Option (Nat × Bool)) : execOp ρ { dst, op := .box 142 x, type := ty, pos, after, guard } = (do pure (.value (← gBox 142 (ρ x)))) := ex_box ..
@[go_sem ↓ high] theorem xa_GTimer (ρ : Operand → Value) (dst : Option Tmp) (ty : TypeId) (pos : String) (after : Array Edge) (guard : Option (Nat × Bool)) : execOp ρ { dst, op := .alloc 142, type := ty, pos, after, guard } = (do pure (.value (← gAlloc 142))) := ex_alloc ..
theorem ag142 : aggT Tryz.prog 142 = true := by kernel_rfl
theorem sz142 : sizeT Tryz.prog 142 = 2 := by kernel_rfl
section
variable (w : World)
@[go_sem ↓ high] theorem ld_GTimer (a : Addr) : (gLoad 142 (.pointer (some a))).run Tryz.prog w = ofOpt ((get? GTimer w a).map GTimer.val) w (noLoad Tryz.prog 142 a w) := by
  unfold gLoad; exact run_loadAt_opt ag142 sz142 GTimer.val GTimer.val_eq
@[go_sem ↓ high] theorem st_GTimer (a : Addr) (x : GTimer) : (gStore 142 (.pointer (some a)) (GTimer.val x)).run Tryz.prog w = okU' ((get? GTimer w a).isSome && blkFree w a.block) (World.putCells w a (GTimer.enc x)) (noStore Tryz.prog 142 (.pointer (some a)) (GTimer.val x) w) := run_gStore_any sz142 GTimer.val GTimer.val_eq w a x
@[go_sem ↓ high] theorem bx_GTimer (x : GTimer) : (gBox 142 (GTimer.val x)).run Tryz.prog w = .ok (.pointer (some ⟨w.heap.size, 0, none⟩)) (w.alloc (.cells (GTimer.enc x).toArray 142)) := by
  rw [GTimer.val_eq]; exact run_gBox _ w
end
theorem lk142_0 (x : GTimer) : x.enc[0]? = some (.int .i64 x.kind) := by
  simp [GTimer.enc, List.getElem?_append]
theorem pt142_0 (w : World) (x : GTimer) : (part 3 x.enc.toArray 0).run Tryz.prog w = .ok (.int .i64 x.kind) w := run_part_one na3 us3 (lk142_0 x)
@[go_sem ↓ high] theorem fd142_0 (w : World) (x : GTimer) : (gField 142 (GTimer.val x) 0).run Tryz.prog w = .ok (.int .i64 x.kind) w := by
  rw [GTimer.val_eq]
  exact run_gField w uu142 (by rw [fl142]; rfl) (pt142_0 w x)
theorem lk142_1 (x : GTimer) : x.enc[1]? = some (.int .i64 x.round) := by
  simp [GTimer.enc, List.getElem?_append]
theorem pt142_1 (w : World) (x : GTimer) : (part 3 x.enc.toArray 1).run Tryz.prog w = .ok (.int .i64 x.round) w := run_part_one na3 us3 (lk142_1 x)
@[go_sem ↓ high] theorem fd142_1 (w : World) (x : GTimer) : (gField 142 (GTimer.val x) 1).run Tryz.prog w = .ok (.int .i64 x.round) w := by
  rw [GTimer.val_eq]
  exact run_gField w uu142 (by rw [fl142]; rfl) (pt142_1 w x)
@[go_sem ↓ high] theorem xf_GTimer (ρ : Operand → Value) (dst : Option Tmp) (x : Operand) (i : Nat) (ty : TypeId) (pos : String) (after : Array Edge) (guard : Option (Nat × Bool)) : execOp ρ { dst, op := .field 142 x i, type := ty, pos, after, guard } = (do pure (.value (← gField 142 (ρ x) i))) := ex_field ..
theorem zr142 : zeroT Tryz.prog 142 = some (.agg (GTimer.enc default).toArray) := by kernel_rfl
@[go_sem ↓ high] theorem al_GTimer (w : World) : (gAlloc 142).run Tryz.prog w = .ok (.pointer (some ⟨w.heap.size, 0, none⟩)) (w.alloc (.cells (GTimer.enc default).toArray 142)) := run_zero_alloc zr142 w
@[go_sem] theorem pc_GTimer (w : World) (n : Nat) (x z : GTimer) (hn : n = w.heap.size) : World.putCells (w.alloc (.cells (GTimer.enc z).toArray 142)) ⟨n, 0, none⟩ (GTimer.enc x) = w.alloc (.cells (GTimer.enc x).toArray 142) := putCells_top x z hn
theorem GTimer.at_kind {w : World} {a : Addr} {x : GTimer} (h : get? GTimer w a = some x) : w.cell? (a.add 0) = some (.int .i64 x.kind) := (get?_iff.1 h) _ _ (lk142_0 x)
theorem GTimer.at_round {w : World} {a : Addr} {x : GTimer} (h : get? GTimer w a = some x) : w.cell? (a.add 1) = some (.int .i64 x.round) := (get?_iff.1 h) _ _ (lk142_1 x)
@[go_sem] theorem nl142_0 (x : GTimer) : x.enc[0]? = some (.int .i64 x.kind) := by
  have h := (GTimer.at_kind (get?_new (w := (default : World)) 142 x))
  simp only [Addr.add_lit, Nat.zero_add, Nat.reduceAdd, World.cell?_alloc_new, List.getElem?_toArray] at h
  exact h
@[go_sem] theorem nl142_1 (x : GTimer) : x.enc[1]? = some (.int .i64 x.round) := by
  have h := (GTimer.at_round (get?_new (w := (default : World)) 142 x))
  simp only [Addr.add_lit, Nat.zero_add, Nat.reduceAdd, World.cell?_alloc_new, List.getElem?_toArray] at h
  exact h
@[go_sem] theorem nw142 (w : World) (n : Nat) (x : GTimer) (hn : n = w.heap.size) : get? GTimer (w.alloc (.cells (GTimer.enc x).toArray 142)) ⟨n, 0, none⟩ = some x := by
  subst hn; exact get?_new 142 x
theorem pl142 : ((Tryz.prog.fieldsOf 142).toList.mapM fun f => (Tryz.prog.info? f.type).map fun i => (f.offset, i.size)) = some [(0, 1), (1, 1)] := by kernel_rfl
theorem fs142_0 (x : GTimer) (v : Int) (rest : List (Nat × Value)) : Instr.fill (fun i => ([(0, 1), (1, 1)] : List (Nat × Nat))[i]?) x.enc.toArray ((0, (.int .i64 v)) :: rest) = Instr.fill (fun i => ([(0, 1), (1, 1)] : List (Nat × Nat))[i]?) ({ x with kind := v } : GTimer).enc.toArray rest := by
  have h := fill_seg [(0, 1), (1, 1)] 0 0 1 rfl (([] : List Value)) ([(.int .i64 x.kind)]) ([(.int .i64 x.round)] ++ (([] : List Value))) ([(.int .i64 v)]) (.int .i64 v) rest (rfl) (by simp) (by simp) (by simp)
  have e1 : x.enc = (([] : List Value)) ++ ([(.int .i64 x.kind)] ++ ([(.int .i64 x.round)] ++ (([] : List Value)))) := by simp only [GTimer.enc, List.nil_append, List.append_assoc, List.append_nil]
  have e2 : ({ x with kind := v } : GTimer).enc = (([] : List Value)) ++ ([(.int .i64 v)] ++ ([(.int .i64 x.round)] ++ (([] : List Value)))) := by simp only [GTimer.enc, List.nil_append, List.append_assoc, List.append_nil]
  rw [e1, e2]; exact h
theorem fs142_1 (x : GTimer) (v : Int) (rest : List (Nat × Value)) : Instr.fill (fun i => ([(0, 1), (1, 1)] : List (Nat × Nat))[i]?) x.enc.toArray ((1, (.int .i64 v)) :: rest) = Instr.fill (fun i => ([(0, 1), (1, 1)] : List (Nat × Nat))[i]?) ({ x with round := v } : GTimer).enc.toArray rest := by
  have h := fill_seg [(0, 1), (1, 1)] 1 1 1 rfl (([] : List Value) ++ ([(.int .i64 x.kind)])) ([(.int .i64 x.round)]) (([] : List Value)) ([(.int .i64 v)]) (.int .i64 v) rest (rfl) (by simp) (by simp) (by simp)
  have e1 : x.enc = (([] : List Value) ++ ([(.int .i64 x.kind)])) ++ ([(.int .i64 x.round)] ++ (([] : List Value))) := by simp only [GTimer.enc, List.nil_append, List.append_assoc, List.append_nil]
  have e2 : ({ x with round := v } : GTimer).enc = (([] : List Value) ++ ([(.int .i64 x.kind)])) ++ ([(.int .i64 v)] ++ (([] : List Value))) := by simp only [GTimer.enc, List.nil_append, List.append_assoc, List.append_nil]
  rw [e1, e2]; exact h
@[go_sem ↓ high] theorem xd_GTimer (ρ : Operand → Value) (dst : Option Tmp) (ps : Array (Nat × Operand)) (ty : TypeId) (pos : String) (after : Array Edge) (guard : Option (Nat × Bool)) : execOp ρ { dst, op := .build 142 ps, type := ty, pos, after, guard } = (do pure (.value (← gBuild 142 (ps.map fun (i, x) => (i, ρ x))))) := ex_build ..
@[go_sem ↓ high] theorem bd142_0 (w : World) (v0 : Int) (v1 : Int) : (gBuild 142 #[(0, (.int .i64 v0)), (1, (.int .i64 v1))]).run Tryz.prog w = .ok (GTimer.val ⟨v0, v1⟩) w := by
  rw [GTimer.val_eq]
  refine run_gBuild_of uu142 zr142 pl142 ?_ w
  show Instr.fill _ (GTimer.enc default).toArray [(0, (.int .i64 v0)), (1, (.int .i64 v1))] = _
  rw [fs142_0, fs142_1]; rfl
theorem eq_GTimer (w : World) (d : Nat) (x y : GTimer) : (Op.equalIn (d + 2) 142 (GTimer.val x) (GTimer.val y)).run Tryz.prog w = .ok (decide (x = y)) w := by
  have q0 : ∀ a b, (Op.equalIn (d + 1) 3 (.int .i64 a) (.int .i64 b)).run Tryz.prog w = .ok (decide (a = b)) w := fun a b => by rw [run_equalIn_int w (d + 0) 3 .i64 .i64 a b uk3]; congr 1
  have q1 : ∀ a b, (Op.equalIn (d + 1) 3 (.int .i64 a) (.int .i64 b)).run Tryz.prog w = .ok (decide (a = b)) w := fun a b => by rw [run_equalIn_int w (d + 0) 3 .i64 .i64 a b uk3]; congr 1
  have h := run_equalIn_fields (d + 1) x.enc.toArray y.enc.toArray w uu142 st142 nb142
  rw [fl142] at h
  unfold GTimer.val
  refine h.trans ?_
  clear h
  simp only [eqFs, Sem.run_bind, pt142_0, pt142_1, q0, q1, Result.andThen_ok, Sem.run_ite, Sem.run_pure]
  have he : decide (x = y) = (decide (x.kind = y.kind) && (decide (x.round = y.round))) := by
    rw [Bool.eq_iff_iff]; simp only [Bool.and_eq_true, decide_eq_true_eq]; exact GTimer.ext_all x y
  rw [he]
  generalize decide (x.kind = y.kind) = c0; generalize decide (x.round = y.round) = c1
  cases c0 <;> cases c1 <;> simp
@[go_sem ↓ high] theorem xq_GTimer (ρ : Operand → Value) (dst : Option Tmp) (x y : Operand) (ty yt : TypeId) (pos : String) (after : Array Edge) (guard : Option (Nat × Bool)) : execOp ρ { dst, op := .binOp .eql 142 x y yt, type := ty, pos, after, guard } = (do pure (.value (← gBin .eql 142 x y (ρ x) (ρ y)))) := ex_eql ..
@[go_sem ↓ high] theorem xn_GTimer (ρ : Operand → Value) (dst : Option Tmp) (x y : Operand) (ty yt : TypeId) (pos : String) (after : Array Edge) (guard : Option (Nat × Bool)) : execOp ρ { dst, op := .binOp .neq 142 x y yt, type := ty, pos, after, guard } = (do pure (.value (← gBin .neq 142 x y (ρ x) (ρ y)))) := ex_neq ..
theorem eg_GTimer : Tryz.prog.eqGuardType Tryz.prog.depth 142 = false := by kernel_rfl
@[go_sem ↓ high] theorem eql_GTimer (w : World) (ox oy : Operand) (x y : GTimer) : (gBin .eql 142 ox oy (GTimer.val x) (GTimer.val y)).run Tryz.prog w = .ok (.bool (decide (x = y))) w := by
  have h2 := eq_GTimer w 9998 x y
  rw [GTimer.val_eq, GTimer.val_eq] at h2 ⊢
  have h := run_eqGuard_agg (P := Tryz.prog) w .eql 142 ox oy (Enc.enc x).toArray (Enc.enc y).toArray eg_GTimer
  unfold gBin
  simp only [Sem.run_bind, h, Result.andThen_ok, run_eql_struct, h2]
@[go_sem ↓ high] theorem neq_GTimer (w : World) (ox oy : Operand) (x y : GTimer) : (gBin .neq 142 ox oy (GTimer.val x) (GTimer.val y)).run Tryz.prog w = .ok (.bool (!decide (x = y))) w := by
  have h2 := eq_GTimer w 9998 x y
  rw [GTimer.val_eq, GTimer.val_eq] at h2 ⊢
  have h := run_eqGuard_agg (P := Tryz.prog) w .neq 142 ox oy (Enc.enc x).toArray (Enc.enc y).toArray eg_GTimer
  unfold gBin
  simp only [Sem.run_bind, h, Result.andThen_ok, run_neq_struct, h2]

/-! ### gavel/replica.timer -/
structure GReplicaTimer where
  due : Int
  t : GTimer
deriving DecidableEq
instance : Inhabited GReplicaTimer := ⟨⟨0, default⟩⟩
def GReplicaTimer.enc (x : GReplicaTimer) : List Value := [(.int .u64 x.due)] ++ (x.t.enc)
theorem GReplicaTimer.enc_len (x : GReplicaTimer) : x.enc.length = 3 := by simp [GReplicaTimer.enc, GTimer.enc_len]
theorem GReplicaTimer.enc_one (x : GReplicaTimer) : ∀ u ∈ x.enc, u.oneCell' = true := by
  intro u hu
  simp only [GReplicaTimer.enc, List.mem_append, List.mem_singleton] at hu
  rcases hu with hu | hu
  · subst hu; rfl
  · exact Enc.one (α := GTimer) _ _ hu
theorem GReplicaTimer.enc_inj (x y : GReplicaTimer) (h : x.enc = y.enc) : x = y := by
  obtain ⟨a0, a1⟩ := x
  obtain ⟨b0, b1⟩ := y
  simp only [GReplicaTimer.enc] at h
  obtain ⟨p0, q0⟩ := List.append_inj h (rfl)
  have e0 : a0 = b0 := by have := List.head_eq_of_cons_eq p0; injection this
  have e1 := Enc.inj (α := GTimer) _ _ q0
  rw [e0, e1]
instance : Enc GReplicaTimer where
  n := 3
  enc := GReplicaTimer.enc
  pos := by omega
  len := GReplicaTimer.enc_len
  one := GReplicaTimer.enc_one
  inj := GReplicaTimer.enc_inj
@[go_sem] theorem GReplicaTimer.n_eq : Enc.n GReplicaTimer = 3 := rfl
@[irreducible] def GReplicaTimer.val (x : GReplicaTimer) : Value := .agg x.enc.toArray
theorem GReplicaTimer.val_eq (x : GReplicaTimer) : GReplicaTimer.val x = .agg (Enc.enc x).toArray := by unfold GReplicaTimer.val; rfl
theorem GReplicaTimer.ext_all (x y : GReplicaTimer) : x = y ↔ x.due = y.due ∧ x.t = y.t := by
  constructor
  · intro h; cases h; simp
  · intro h; cases x; cases y; simp_all
theorem uu144 : Tryz.prog.underlying 144 = some (.struct (Tryz.prog.fieldsOf 144)) := by kernel_rfl
theorem st144 : Tryz.prog.stoodInHeld 144 = false := by kernel_rfl
theorem fl144 : fieldTO Tryz.prog 144 = [(42, 0), (142, 1)] := by kernel_rfl
theorem nb144 : noBlank Tryz.prog 144 = true := by kernel_rfl
@[go_sem ↓ high] theorem xl_GReplicaTimer (ρ : Operand → Value) (dst : Option Tmp) (x : Operand) (ty : TypeId) (pos : String) (after : Array Edge) (guard : Option (Nat × Bool)) : execOp ρ { dst, op := .load 144 x, type := ty, pos, after, guard } = (do pure (.value (← gLoad 144 (ρ x)))) := ex_load ..
@[go_sem ↓ high] theorem xs_GReplicaTimer (ρ : Operand → Value) (dst : Option Tmp) (x y : Operand) (ty : TypeId) (pos : String) (after : Array Edge) (guard : Option (Nat × Bool)) : execOp ρ { dst, op := .store 144 x y, type := ty, pos, after, guard } = (do gStore 144 (ρ x) (ρ y); pure .skip) := ex_store ..
@[go_sem ↓ high] theorem xb_GReplicaTimer (ρ : Operand → Value) (dst : Option Tmp) (x : Operand) (ty : TypeId) (pos : String) (after : Array Edge) (guard : Option (Nat × Bool)) : execOp ρ { dst, op := .box 144 x, type := ty, pos, after, guard } = (do pure (.value (← gBox 144 (ρ x)))) := ex_box ..
@[go_sem ↓ high] theorem xa_GReplicaTimer (ρ : Operand → Value) (dst : Option Tmp) (ty : TypeId) (pos : String) (after : Array Edge) (guard : Option (Nat × Bool)) : execOp ρ { dst, op := .alloc 144, type := ty, pos, after, guard } = (do pure (.value (← gAlloc 144))) := ex_alloc ..
theorem ag144 : aggT Tryz.prog 144 = true := by kernel_rfl
theorem sz144 : sizeT Tryz.prog 144 = 3 := by kernel_rfl
section
variable (w : World)
@[go_sem ↓ high] theorem ld_GReplicaTimer (a : Addr) : (gLoad 144 (.pointer (some a))).run Tryz.prog w = ofOpt ((get? GReplicaTimer w a).map GReplicaTimer.val) w (noLoad Tryz.prog 144 a w) := by
  unfold gLoad; exact run_loadAt_opt ag144 sz144 GReplicaTimer.val GReplicaTimer.val_eq
@[go_sem ↓ high] theorem st_GReplicaTimer (a : Addr) (x : GReplicaTimer) : (gStore 144 (.pointer (some a)) (GReplicaTimer.val x)).run Tryz.prog w = okU' ((get? GReplicaTimer w a).isSome && blkFree w a.block) (World.putCells w a (GReplicaTimer.enc x)) (noStore Tryz.prog 144 (.pointer (some a)) (GReplicaTimer.val x) w) := run_gStore_any sz144 GReplicaTimer.val GReplicaTimer.val_eq w a x
@[go_sem ↓ high] theorem bx_GReplicaTimer (x : GReplicaTimer) : (gBox 144 (GReplicaTimer.val x)).run Tryz.prog w = .ok (.pointer (some ⟨w.heap.size, 0, none⟩)) (w.alloc (.cells (GReplicaTimer.enc x).toArray 144)) := by
  rw [GReplicaTimer.val_eq]; exact run_gBox _ w
end
theorem lk144_0 (x : GReplicaTimer) : x.enc[0]? = some (.int .u64 x.due) := by
  simp [GReplicaTimer.enc, List.getElem?_append]
theorem pt144_0 (w : World) (x : GReplicaTimer) : (part 42 x.enc.toArray 0).run Tryz.prog w = .ok (.int .u64 x.due) w := run_part_one na42 us42 (lk144_0 x)
@[go_sem ↓ high] theorem fd144_0 (w : World) (x : GReplicaTimer) : (gField 144 (GReplicaTimer.val x) 0).run Tryz.prog w = .ok (.int .u64 x.due) w := by
  rw [GReplicaTimer.val_eq]
  exact run_gField w uu144 (by rw [fl144]; rfl) (pt144_0 w x)
theorem ds144_1 (x : GReplicaTimer) : (x.enc.drop 1).take 2 = x.t.enc := by
  unfold GReplicaTimer.enc
  simp [List.drop_append, List.drop_eq_nil_of_le] <;> (exact List.take_of_length_le (by simp [GTimer.enc_len]))
theorem pt144_1 (w : World) (x : GReplicaTimer) : (part 142 x.enc.toArray 1).run Tryz.prog w = .ok (x.t.val) w := by
  have h := run_part_agg (P := Tryz.prog) (w := w) (cs := x.enc) (ds := x.t.enc) (off := 1) ag142 (by rw [GTimer.enc_len]; exact sz142) (by simp [GTimer.enc_len]) (by rw [GTimer.enc_len]; exact ds144_1 x)
  rw [h, GTimer.val_eq]; rfl
@[go_sem ↓ high] theorem fd144_1 (w : World) (x : GReplicaTimer) : (gField 144 (GReplicaTimer.val x) 1).run Tryz.prog w = .ok (x.t.val) w := by
  rw [GReplicaTimer.val_eq]
  exact run_gField w uu144 (by rw [fl144]; rfl) (pt144_1 w x)
@[go_sem ↓ high] theorem xf_GReplicaTimer (ρ : Operand → Value) (dst : Option Tmp) (x : Operand) (i : Nat) (ty : TypeId) (pos : String) (after : Array Edge) (guard : Option (Nat × Bool)) : execOp ρ { dst, op := .field 144 x i, type := ty, pos, after, guard } = (do pure (.value (← gField 144 (ρ x) i))) := ex_field ..
theorem zr144 : zeroT Tryz.prog 144 = some (.agg (GReplicaTimer.enc default).toArray) := by kernel_rfl
@[go_sem ↓ high] theorem al_GReplicaTimer (w : World) : (gAlloc 144).run Tryz.prog w = .ok (.pointer (some ⟨w.heap.size, 0, none⟩)) (w.alloc (.cells (GReplicaTimer.enc default).toArray 144)) := run_zero_alloc zr144 w
@[go_sem] theorem pc_GReplicaTimer (w : World) (n : Nat) (x z : GReplicaTimer) (hn : n = w.heap.size) : World.putCells (w.alloc (.cells (GReplicaTimer.enc z).toArray 144)) ⟨n, 0, none⟩ (GReplicaTimer.enc x) = w.alloc (.cells (GReplicaTimer.enc x).toArray 144) := putCells_top x z hn
theorem GReplicaTimer.at_due {w : World} {a : Addr} {x : GReplicaTimer} (h : get? GReplicaTimer w a = some x) : w.cell? (a.add 0) = some (.int .u64 x.due) := (get?_iff.1 h) _ _ (lk144_0 x)
theorem GReplicaTimer.at_t {w : World} {a : Addr} {x : GReplicaTimer} (h : get? GReplicaTimer w a = some x) : get? GTimer w (a.add 1) = some x.t := by
  rw [get?_iff] at h ⊢
  refine h.sub 1 fun j v hv => ?_
  have hd := ds144_1 x
  have hj : j < 2 := by have := (List.getElem?_eq_some_iff.1 hv).1; rwa [Enc.len] at this
  show x.enc[1 + j]? = some v
  rw [← List.getElem?_drop, ← List.getElem?_take_of_lt hj, hd]; exact hv
@[go_sem] theorem nl144_0 (x : GReplicaTimer) : x.enc[0]? = some (.int .u64 x.due) := by
  have h := (GReplicaTimer.at_due (get?_new (w := (default : World)) 144 x))
  simp only [Addr.add_lit, Nat.zero_add, Nat.reduceAdd, World.cell?_alloc_new, List.getElem?_toArray] at h
  exact h
@[go_sem] theorem nw144_1_GTimer (w : World) (n : Nat) (x : GReplicaTimer) (hn : n = w.heap.size) : get? GTimer (w.alloc (.cells (GReplicaTimer.enc x).toArray 144)) ⟨n, 1, none⟩ = some x.t := by
  subst hn
  have h := (GReplicaTimer.at_t (get?_new (w := w) 144 x))
  simp only [Addr.add_lit, Nat.zero_add, Nat.reduceAdd] at h
  exact h
@[go_sem] theorem nl144_1 (x : GReplicaTimer) : x.enc[1]? = some (.int .i64 x.t.kind) := by
  have h := (GTimer.at_kind (GReplicaTimer.at_t (get?_new (w := (default : World)) 144 x)))
  simp only [Addr.add_lit, Nat.zero_add, Nat.reduceAdd, World.cell?_alloc_new, List.getElem?_toArray] at h
  exact h
@[go_sem] theorem nl144_2 (x : GReplicaTimer) : x.enc[2]? = some (.int .i64 x.t.round) := by
  have h := (GTimer.at_round (GReplicaTimer.at_t (get?_new (w := (default : World)) 144 x)))
  simp only [Addr.add_lit, Nat.zero_add, Nat.reduceAdd, World.cell?_alloc_new, List.getElem?_toArray] at h
  exact h
@[go_sem] theorem nw144 (w : World) (n : Nat) (x : GReplicaTimer) (hn : n = w.heap.size) : get? GReplicaTimer (w.alloc (.cells (GReplicaTimer.enc x).toArray 144)) ⟨n, 0, none⟩ = some x := by
  subst hn; exact get?_new 144 x
theorem pl144 : ((Tryz.prog.fieldsOf 144).toList.mapM fun f => (Tryz.prog.info? f.type).map fun i => (f.offset, i.size)) = some [(0, 1), (1, 2)] := by kernel_rfl
theorem fs144_0 (x : GReplicaTimer) (v : Int) (rest : List (Nat × Value)) : Instr.fill (fun i => ([(0, 1), (1, 2)] : List (Nat × Nat))[i]?) x.enc.toArray ((0, (.int .u64 v)) :: rest) = Instr.fill (fun i => ([(0, 1), (1, 2)] : List (Nat × Nat))[i]?) ({ x with due := v } : GReplicaTimer).enc.toArray rest := by
  have h := fill_seg [(0, 1), (1, 2)] 0 0 1 rfl (([] : List Value)) ([(.int .u64 x.due)]) (x.t.enc ++ (([] : List Value))) ([(.int .u64 v)]) (.int .u64 v) rest (rfl) (by simp [GTimer.enc_len]) (by simp [GTimer.enc_len]) (by simp [GTimer.enc_len])
  have e1 : x.enc = (([] : List Value)) ++ ([(.int .u64 x.due)] ++ (x.t.enc ++ (([] : List Value)))) := by simp only [GReplicaTimer.enc, List.nil_append, List.append_assoc, List.append_nil]
  have e2 : ({ x with due := v } : GReplicaTimer).enc = (([] : List Value)) ++ ([(.int .u64 v)] ++ (x.t.enc ++ (([] : List Value)))) := by simp only [GReplicaTimer.enc, List.nil_append, List.append_assoc, List.append_nil]
  rw [e1, e2]; exact h
theorem fs144_1 (x : GReplicaTimer) (v : GTimer) (rest : List (Nat × Value)) : Instr.fill (fun i => ([(0, 1), (1, 2)] : List (Nat × Nat))[i]?) x.enc.toArray ((1, (v.val)) :: rest) = Instr.fill (fun i => ([(0, 1), (1, 2)] : List (Nat × Nat))[i]?) ({ x with t := v } : GReplicaTimer).enc.toArray rest := by
  have h := fill_seg [(0, 1), (1, 2)] 1 1 2 rfl (([] : List Value) ++ ([(.int .u64 x.due)])) (x.t.enc) (([] : List Value)) (v.enc) (v.val) rest (by rw [GTimer.val_eq]; rfl) (by simp [GTimer.enc_len]) (by simp [GTimer.enc_len]) (by simp [GTimer.enc_len])
  have e1 : x.enc = (([] : List Value) ++ ([(.int .u64 x.due)])) ++ (x.t.enc ++ (([] : List Value))) := by simp only [GReplicaTimer.enc, List.nil_append, List.append_assoc, List.append_nil]
  have e2 : ({ x with t := v } : GReplicaTimer).enc = (([] : List Value) ++ ([(.int .u64 x.due)])) ++ (v.enc ++ (([] : List Value))) := by simp only [GReplicaTimer.enc, List.nil_append, List.append_assoc, List.append_nil]
  rw [e1, e2]; exact h
@[go_sem ↓ high] theorem xd_GReplicaTimer (ρ : Operand → Value) (dst : Option Tmp) (ps : Array (Nat × Operand)) (ty : TypeId) (pos : String) (after : Array Edge) (guard : Option (Nat × Bool)) : execOp ρ { dst, op := .build 144 ps, type := ty, pos, after, guard } = (do pure (.value (← gBuild 144 (ps.map fun (i, x) => (i, ρ x))))) := ex_build ..
@[go_sem ↓ high] theorem bd144_0 (w : World) (v0 : Int) (v1 : GTimer) : (gBuild 144 #[(0, (.int .u64 v0)), (1, (v1.val))]).run Tryz.prog w = .ok (GReplicaTimer.val ⟨v0, v1⟩) w := by
  rw [GReplicaTimer.val_eq]
  refine run_gBuild_of uu144 zr144 pl144 ?_ w
  show Instr.fill _ (GReplicaTimer.enc default).toArray [(0, (.int .u64 v0)), (1, (v1.val))] = _
  rw [fs144_0, fs144_1]; rfl
theorem eq_GReplicaTimer (w : World) (d : Nat) (x y : GReplicaTimer) : (Op.equalIn (d + 3) 144 (GReplicaTimer.val x) (GReplicaTimer.val y)).run Tryz.prog w = .ok (decide (x = y)) w := by
  have q0 : ∀ a b, (Op.equalIn (d + 2) 42 (.int .u64 a) (.int .u64 b)).run Tryz.prog w = .ok (decide (a = b)) w := fun a b => by rw [run_equalIn_int w (d + 1) 42 .u64 .u64 a b uk42]; congr 1
  have q1 : (Op.equalIn (d + 2) 142 x.t.val y.t.val).run Tryz.prog w = .ok (decide (x.t = y.t)) w := eq_GTimer w (d + 0) _ _
  have h := run_equalIn_fields (d + 2) x.enc.toArray y.enc.toArray w uu144 st144 nb144
  rw [fl144] at h
  unfold GReplicaTimer.val
  refine h.trans ?_
  clear h
  simp only [eqFs, Sem.run_bind, pt144_0, pt144_1, q0, q1, Result.andThen_ok, Sem.run_ite, Sem.run_pure]
  have he : decide (x = y) = (decide (x.due = y.due) && (decide (x.t = y.t))) := by
    rw [Bool.eq_iff_iff]; simp only [Bool.and_eq_true, decide_eq_true_eq]; exact GReplicaTimer.ext_all x y
  rw [he]
  generalize decide (x.due = y.due) = c0; generalize decide (x.t = y.t) = c1
  cases c0 <;> cases c1 <;> simp
@[go_sem ↓ high] theorem xq_GReplicaTimer (ρ : Operand → Value) (dst : Option Tmp) (x y : Operand) (ty yt : TypeId) (pos : String) (after : Array Edge) (guard : Option (Nat × Bool)) : execOp ρ { dst, op := .binOp .eql 144 x y yt, type := ty, pos, after, guard } = (do pure (.value (← gBin .eql 144 x y (ρ x) (ρ y)))) := ex_eql ..
@[go_sem ↓ high] theorem xn_GReplicaTimer (ρ : Operand → Value) (dst : Option Tmp) (x y : Operand) (ty yt : TypeId) (pos : String) (after : Array Edge) (guard : Option (Nat × Bool)) : execOp ρ { dst, op := .binOp .neq 144 x y yt, type := ty, pos, after, guard } = (do pure (.value (← gBin .neq 144 x y (ρ x) (ρ y)))) := ex_neq ..
theorem eg_GReplicaTimer : Tryz.prog.eqGuardType Tryz.prog.depth 144 = false := by kernel_rfl
@[go_sem ↓ high] theorem eql_GReplicaTimer (w : World) (ox oy : Operand) (x y : GReplicaTimer) : (gBin .eql 144 ox oy (GReplicaTimer.val x) (GReplicaTimer.val y)).run Tryz.prog w = .ok (.bool (decide (x = y))) w := by
  have h2 := eq_GReplicaTimer w 9997 x y
  rw [GReplicaTimer.val_eq, GReplicaTimer.val_eq] at h2 ⊢
  have h := run_eqGuard_agg (P := Tryz.prog) w .eql 144 ox oy (Enc.enc x).toArray (Enc.enc y).toArray eg_GReplicaTimer
  unfold gBin
  simp only [Sem.run_bind, h, Result.andThen_ok, run_eql_struct, h2]
@[go_sem ↓ high] theorem neq_GReplicaTimer (w : World) (ox oy : Operand) (x y : GReplicaTimer) : (gBin .neq 144 ox oy (GReplicaTimer.val x) (GReplicaTimer.val y)).run Tryz.prog w = .ok (.bool (!decide (x = y))) w := by
  have h2 := eq_GReplicaTimer w 9997 x y
  rw [GReplicaTimer.val_eq, GReplicaTimer.val_eq] at h2 ⊢
  have h := run_eqGuard_agg (P := Tryz.prog) w .neq 144 ox oy (Enc.enc x).toArray (Enc.enc y).toArray eg_GReplicaTimer
  unfold gBin
  simp only [Sem.run_bind, h, Result.andThen_ok, run_neq_struct, h2]

/-! ### gavel/replica.voter -/
structure GReplicaVoter where
  round : Int
  replica : Int
deriving DecidableEq
instance : Inhabited GReplicaVoter := ⟨⟨0, 0⟩⟩
def GReplicaVoter.enc (x : GReplicaVoter) : List Value := [(.int .i64 x.round)] ++ ([(.int .i64 x.replica)])
theorem GReplicaVoter.enc_len (x : GReplicaVoter) : x.enc.length = 2 := by simp [GReplicaVoter.enc]
theorem GReplicaVoter.enc_one (x : GReplicaVoter) : ∀ u ∈ x.enc, u.oneCell' = true := by
  intro u hu
  simp only [GReplicaVoter.enc, List.mem_append, List.mem_singleton] at hu
  rcases hu with hu | hu
  · subst hu; rfl
  · subst hu; rfl
theorem GReplicaVoter.enc_inj (x y : GReplicaVoter) (h : x.enc = y.enc) : x = y := by
  obtain ⟨a0, a1⟩ := x
  obtain ⟨b0, b1⟩ := y
  simp only [GReplicaVoter.enc] at h
  obtain ⟨p0, q0⟩ := List.append_inj h (rfl)
  have e0 : a0 = b0 := by have := List.head_eq_of_cons_eq p0; injection this
  have e1 : a1 = b1 := by have := List.head_eq_of_cons_eq q0; injection this
  rw [e0, e1]
instance : Enc GReplicaVoter where
  n := 2
  enc := GReplicaVoter.enc
  pos := by omega
  len := GReplicaVoter.enc_len
  one := GReplicaVoter.enc_one
  inj := GReplicaVoter.enc_inj
@[go_sem] theorem GReplicaVoter.n_eq : Enc.n GReplicaVoter = 2 := rfl
@[irreducible] def GReplicaVoter.val (x : GReplicaVoter) : Value := .agg x.enc.toArray
theorem GReplicaVoter.val_eq (x : GReplicaVoter) : GReplicaVoter.val x = .agg (Enc.enc x).toArray := by unfold GReplicaVoter.val; rfl
theorem GReplicaVoter.ext_all (x y : GReplicaVoter) : x = y ↔ x.round = y.round ∧ x.replica = y.replica := by
  constructor
  · intro h; cases h; simp
  · intro h; cases x; cases y; simp_all
theorem uu192 : Tryz.prog.underlying 192 = some (.struct (Tryz.prog.fieldsOf 192)) := by kernel_rfl
theorem st192 : Tryz.prog.stoodInHeld 192 = false := by kernel_rfl
theorem fl192 : fieldTO Tryz.prog 192 = [(3, 0), (3, 1)] := by kernel_rfl
theorem nb192 : noBlank Tryz.prog 192 = true := by kernel_rfl
@[go_sem ↓ high] theorem xl_GReplicaVoter (ρ : Operand → Value) (dst : Option Tmp) (x : Operand) (ty : TypeId) (pos : String) (after : Array Edge) (guard : Option (Nat × Bool)) : execOp ρ { dst, op := .load 192 x, type := ty, pos, after, guard } = (do pure (.value (← gLoad 192 (ρ x)))) := ex_load ..
@[go_sem ↓ high] theorem xs_GReplicaVoter (ρ : Operand → Value) (dst : Option Tmp) (x y : Operand) (ty : TypeId) (pos : String) (after : Array Edge) (guard : Option (Nat × Bool)) : execOp ρ { dst, op := .store 192 x y, type := ty, pos, after, guard } = (do gStore 192 (ρ x) (ρ y); pure .skip) := ex_store ..
@[go_sem ↓ high] theorem xb_GReplicaVoter (ρ : Operand → Value) (dst : Option Tmp) (x : Operand) (ty : TypeId) (pos : String) (after : Array Edge) (guard : Option (Nat × Bool)) : execOp ρ { dst, op := .box 192 x, type := ty, pos, after, guard } = (do pure (.value (← gBox 192 (ρ x)))) := ex_box ..
@[go_sem ↓ high] theorem xa_GReplicaVoter (ρ : Operand → Value) (dst : Option Tmp) (ty : TypeId) (pos : String) (after : Array Edge) (guard : Option (Nat × Bool)) : execOp ρ { dst, op := .alloc 192, type := ty, pos, after, guard } = (do pure (.value (← gAlloc 192))) := ex_alloc ..
theorem ag192 : aggT Tryz.prog 192 = true := by kernel_rfl
theorem sz192 : sizeT Tryz.prog 192 = 2 := by kernel_rfl
section
variable (w : World)
@[go_sem ↓ high] theorem ld_GReplicaVoter (a : Addr) : (gLoad 192 (.pointer (some a))).run Tryz.prog w = ofOpt ((get? GReplicaVoter w a).map GReplicaVoter.val) w (noLoad Tryz.prog 192 a w) := by
  unfold gLoad; exact run_loadAt_opt ag192 sz192 GReplicaVoter.val GReplicaVoter.val_eq
@[go_sem ↓ high] theorem st_GReplicaVoter (a : Addr) (x : GReplicaVoter) : (gStore 192 (.pointer (some a)) (GReplicaVoter.val x)).run Tryz.prog w = okU' ((get? GReplicaVoter w a).isSome && blkFree w a.block) (World.putCells w a (GReplicaVoter.enc x)) (noStore Tryz.prog 192 (.pointer (some a)) (GReplicaVoter.val x) w) := run_gStore_any sz192 GReplicaVoter.val GReplicaVoter.val_eq w a x
@[go_sem ↓ high] theorem bx_GReplicaVoter (x : GReplicaVoter) : (gBox 192 (GReplicaVoter.val x)).run Tryz.prog w = .ok (.pointer (some ⟨w.heap.size, 0, none⟩)) (w.alloc (.cells (GReplicaVoter.enc x).toArray 192)) := by
  rw [GReplicaVoter.val_eq]; exact run_gBox _ w
end
theorem lk192_0 (x : GReplicaVoter) : x.enc[0]? = some (.int .i64 x.round) := by
  simp [GReplicaVoter.enc, List.getElem?_append]
theorem pt192_0 (w : World) (x : GReplicaVoter) : (part 3 x.enc.toArray 0).run Tryz.prog w = .ok (.int .i64 x.round) w := run_part_one na3 us3 (lk192_0 x)
@[go_sem ↓ high] theorem fd192_0 (w : World) (x : GReplicaVoter) : (gField 192 (GReplicaVoter.val x) 0).run Tryz.prog w = .ok (.int .i64 x.round) w := by
  rw [GReplicaVoter.val_eq]
  exact run_gField w uu192 (by rw [fl192]; rfl) (pt192_0 w x)
theorem lk192_1 (x : GReplicaVoter) : x.enc[1]? = some (.int .i64 x.replica) := by
  simp [GReplicaVoter.enc, List.getElem?_append]
theorem pt192_1 (w : World) (x : GReplicaVoter) : (part 3 x.enc.toArray 1).run Tryz.prog w = .ok (.int .i64 x.replica) w := run_part_one na3 us3 (lk192_1 x)
@[go_sem ↓ high] theorem fd192_1 (w : World) (x : GReplicaVoter) : (gField 192 (GReplicaVoter.val x) 1).run Tryz.prog w = .ok (.int .i64 x.replica) w := by
  rw [GReplicaVoter.val_eq]
  exact run_gField w uu192 (by rw [fl192]; rfl) (pt192_1 w x)
@[go_sem ↓ high] theorem xf_GReplicaVoter (ρ : Operand → Value) (dst : Option Tmp) (x : Operand) (i : Nat) (ty : TypeId) (pos : String) (after : Array Edge) (guard : Option (Nat × Bool)) : execOp ρ { dst, op := .field 192 x i, type := ty, pos, after, guard } = (do pure (.value (← gField 192 (ρ x) i))) := ex_field ..
theorem zr192 : zeroT Tryz.prog 192 = some (.agg (GReplicaVoter.enc default).toArray) := by kernel_rfl
@[go_sem ↓ high] theorem al_GReplicaVoter (w : World) : (gAlloc 192).run Tryz.prog w = .ok (.pointer (some ⟨w.heap.size, 0, none⟩)) (w.alloc (.cells (GReplicaVoter.enc default).toArray 192)) := run_zero_alloc zr192 w
@[go_sem] theorem pc_GReplicaVoter (w : World) (n : Nat) (x z : GReplicaVoter) (hn : n = w.heap.size) : World.putCells (w.alloc (.cells (GReplicaVoter.enc z).toArray 192)) ⟨n, 0, none⟩ (GReplicaVoter.enc x) = w.alloc (.cells (GReplicaVoter.enc x).toArray 192) := putCells_top x z hn
theorem GReplicaVoter.at_round {w : World} {a : Addr} {x : GReplicaVoter} (h : get? GReplicaVoter w a = some x) : w.cell? (a.add 0) = some (.int .i64 x.round) := (get?_iff.1 h) _ _ (lk192_0 x)
theorem GReplicaVoter.at_replica {w : World} {a : Addr} {x : GReplicaVoter} (h : get? GReplicaVoter w a = some x) : w.cell? (a.add 1) = some (.int .i64 x.replica) := (get?_iff.1 h) _ _ (lk192_1 x)
@[go_sem] theorem nl192_0 (x : GReplicaVoter) : x.enc[0]? = some (.int .i64 x.round) := by
  have h := (GReplicaVoter.at_round (get?_new (w := (default : World)) 192 x))
  simp only [Addr.add_lit, Nat.zero_add, Nat.reduceAdd, World.cell?_alloc_new, List.getElem?_toArray] at h
  exact h
@[go_sem] theorem nl192_1 (x : GReplicaVoter) : x.enc[1]? = some (.int .i64 x.replica) := by
  have h := (GReplicaVoter.at_replica (get?_new (w := (default : World)) 192 x))
  simp only [Addr.add_lit, Nat.zero_add, Nat.reduceAdd, World.cell?_alloc_new, List.getElem?_toArray] at h
  exact h
@[go_sem] theorem nw192 (w : World) (n : Nat) (x : GReplicaVoter) (hn : n = w.heap.size) : get? GReplicaVoter (w.alloc (.cells (GReplicaVoter.enc x).toArray 192)) ⟨n, 0, none⟩ = some x := by
  subst hn; exact get?_new 192 x
theorem pl192 : ((Tryz.prog.fieldsOf 192).toList.mapM fun f => (Tryz.prog.info? f.type).map fun i => (f.offset, i.size)) = some [(0, 1), (1, 1)] := by kernel_rfl
theorem fs192_0 (x : GReplicaVoter) (v : Int) (rest : List (Nat × Value)) : Instr.fill (fun i => ([(0, 1), (1, 1)] : List (Nat × Nat))[i]?) x.enc.toArray ((0, (.int .i64 v)) :: rest) = Instr.fill (fun i => ([(0, 1), (1, 1)] : List (Nat × Nat))[i]?) ({ x with round := v } : GReplicaVoter).enc.toArray rest := by
  have h := fill_seg [(0, 1), (1, 1)] 0 0 1 rfl (([] : List Value)) ([(.int .i64 x.round)]) ([(.int .i64 x.replica)] ++ (([] : List Value))) ([(.int .i64 v)]) (.int .i64 v) rest (rfl) (by simp) (by simp) (by simp)
  have e1 : x.enc = (([] : List Value)) ++ ([(.int .i64 x.round)] ++ ([(.int .i64 x.replica)] ++ (([] : List Value)))) := by simp only [GReplicaVoter.enc, List.nil_append, List.append_assoc, List.append_nil]
  have e2 : ({ x with round := v } : GReplicaVoter).enc = (([] : List Value)) ++ ([(.int .i64 v)] ++ ([(.int .i64 x.replica)] ++ (([] : List Value)))) := by simp only [GReplicaVoter.enc, List.nil_append, List.append_assoc, List.append_nil]
  rw [e1, e2]; exact h
theorem fs192_1 (x : GReplicaVoter) (v : Int) (rest : List (Nat × Value)) : Instr.fill (fun i => ([(0, 1), (1, 1)] : List (Nat × Nat))[i]?) x.enc.toArray ((1, (.int .i64 v)) :: rest) = Instr.fill (fun i => ([(0, 1), (1, 1)] : List (Nat × Nat))[i]?) ({ x with replica := v } : GReplicaVoter).enc.toArray rest := by
  have h := fill_seg [(0, 1), (1, 1)] 1 1 1 rfl (([] : List Value) ++ ([(.int .i64 x.round)])) ([(.int .i64 x.replica)]) (([] : List Value)) ([(.int .i64 v)]) (.int .i64 v) rest (rfl) (by simp) (by simp) (by simp)
  have e1 : x.enc = (([] : List Value) ++ ([(.int .i64 x.round)])) ++ ([(.int .i64 x.replica)] ++ (([] : List Value))) := by simp only [GReplicaVoter.enc, List.nil_append, List.append_assoc, List.append_nil]
  have e2 : ({ x with replica := v } : GReplicaVoter).enc = (([] : List Value) ++ ([(.int .i64 x.round)])) ++ ([(.int .i64 v)] ++ (([] : List Value))) := by simp only [GReplicaVoter.enc, List.nil_append, List.append_assoc, List.append_nil]
  rw [e1, e2]; exact h
@[go_sem ↓ high] theorem xd_GReplicaVoter (ρ : Operand → Value) (dst : Option Tmp) (ps : Array (Nat × Operand)) (ty : TypeId) (pos : String) (after : Array Edge) (guard : Option (Nat × Bool)) : execOp ρ { dst, op := .build 192 ps, type := ty, pos, after, guard } = (do pure (.value (← gBuild 192 (ps.map fun (i, x) => (i, ρ x))))) := ex_build ..
@[go_sem ↓ high] theorem bd192_0 (w : World) (v0 : Int) (v1 : Int) : (gBuild 192 #[(0, (.int .i64 v0)), (1, (.int .i64 v1))]).run Tryz.prog w = .ok (GReplicaVoter.val ⟨v0, v1⟩) w := by
  rw [GReplicaVoter.val_eq]
  refine run_gBuild_of uu192 zr192 pl192 ?_ w
  show Instr.fill _ (GReplicaVoter.enc default).toArray [(0, (.int .i64 v0)), (1, (.int .i64 v1))] = _
  rw [fs192_0, fs192_1]; rfl
theorem eq_GReplicaVoter (w : World) (d : Nat) (x y : GReplicaVoter) : (Op.equalIn (d + 2) 192 (GReplicaVoter.val x) (GReplicaVoter.val y)).run Tryz.prog w = .ok (decide (x = y)) w := by
  have q0 : ∀ a b, (Op.equalIn (d + 1) 3 (.int .i64 a) (.int .i64 b)).run Tryz.prog w = .ok (decide (a = b)) w := fun a b => by rw [run_equalIn_int w (d + 0) 3 .i64 .i64 a b uk3]; congr 1
  have q1 : ∀ a b, (Op.equalIn (d + 1) 3 (.int .i64 a) (.int .i64 b)).run Tryz.prog w = .ok (decide (a = b)) w := fun a b => by rw [run_equalIn_int w (d + 0) 3 .i64 .i64 a b uk3]; congr 1
  have h := run_equalIn_fields (d + 1) x.enc.toArray y.enc.toArray w uu192 st192 nb192
  rw [fl192] at h
  unfold GReplicaVoter.val
  refine h.trans ?_
  clear h
  simp only [eqFs, Sem.run_bind, pt192_0, pt192_1, q0, q1, Result.andThen_ok, Sem.run_ite, Sem.run_pure]
  have he : decide (x = y) = (decide (x.round = y.round) && (decide (x.replica = y.replica))) := by
    rw [Bool.eq_iff_iff]; simp only [Bool.and_eq_true, decide_eq_true_eq]; exact GReplicaVoter.ext_all x y
  rw [he]
  generalize decide (x.round = y.round) = c0; generalize decide (x.replica = y.replica) = c1
  cases c0 <;> cases c1 <;> simp
@[go_sem ↓ high] theorem xq_GReplicaVoter (ρ : Operand → Value) (dst : Option Tmp) (x y : Operand) (ty yt : TypeId) (pos : String) (after : Array Edge) (guard : Option (Nat × Bool)) : execOp ρ { dst, op := .binOp .eql 192 x y yt, type := ty, pos, after, guard } = (do pure (.value (← gBin .eql 192 x y (ρ x) (ρ y)))) := ex_eql ..
@[go_sem ↓ high] theorem xn_GReplicaVoter (ρ : Operand → Value) (dst : Option Tmp) (x y : Operand) (ty yt : TypeId) (pos : String) (after : Array Edge) (guard : Option (Nat × Bool)) : execOp ρ { dst, op := .binOp .neq 192 x y yt, type := ty, pos, after, guard } = (do pure (.value (← gBin .neq 192 x y (ρ x) (ρ y)))) := ex_neq ..
theorem eg_GReplicaVoter : Tryz.prog.eqGuardType Tryz.prog.depth 192 = false := by kernel_rfl
@[go_sem ↓ high] theorem eql_GReplicaVoter (w : World) (ox oy : Operand) (x y : GReplicaVoter) : (gBin .eql 192 ox oy (GReplicaVoter.val x) (GReplicaVoter.val y)).run Tryz.prog w = .ok (.bool (decide (x = y))) w := by
  have h2 := eq_GReplicaVoter w 9998 x y
  rw [GReplicaVoter.val_eq, GReplicaVoter.val_eq] at h2 ⊢
  have h := run_eqGuard_agg (P := Tryz.prog) w .eql 192 ox oy (Enc.enc x).toArray (Enc.enc y).toArray eg_GReplicaVoter
  unfold gBin
  simp only [Sem.run_bind, h, Result.andThen_ok, run_eql_struct, h2]
@[go_sem ↓ high] theorem neq_GReplicaVoter (w : World) (ox oy : Operand) (x y : GReplicaVoter) : (gBin .neq 192 ox oy (GReplicaVoter.val x) (GReplicaVoter.val y)).run Tryz.prog w = .ok (.bool (!decide (x = y))) w := by
  have h2 := eq_GReplicaVoter w 9998 x y
  rw [GReplicaVoter.val_eq, GReplicaVoter.val_eq] at h2 ⊢
  have h := run_eqGuard_agg (P := Tryz.prog) w .neq 192 ox oy (Enc.enc x).toArray (Enc.enc y).toArray eg_GReplicaVoter
  unfold gBin
  simp only [Sem.run_bind, h, Result.andThen_ok, run_neq_struct, h2]
/-! ### []replica.timer -/
theorem ei112 : ElemI Tryz.prog 112 144 GReplicaTimer 24 := ⟨by kernel_rfl, by kernel_rfl⟩
@[go_sem ↓ high] theorem xg_112 (ρ : Operand → Value) (dst : Option Tmp) (ps : Array (Nat × Operand)) (ty : TypeId) (pos : String) (after : Array Edge) (guard : Option (Nat × Bool)) : execOp ρ { dst, op := .buildSlice 112 1 ps, type := ty, pos, after, guard } = (do pure (.value (← gBuildSlice 112 1 (ps.map fun (i, x) => (i, ρ x))))) := ex_buildSlice ..
@[go_sem ↓ high] theorem bs_112 (w : World) (x : GReplicaTimer) : (gBuildSlice 112 1 #[(0, GReplicaTimer.val x)]).run Tryz.prog w = .ok (.slice (some ⟨w.heap.size, 0, none⟩) 1 1) (w.alloc (.cells (GReplicaTimer.enc x).toArray 144)) := by
  rw [GReplicaTimer.val_eq]; exact run_buildSlice_one ei112 (by decide) x w
instance : KEnc GReplicaVoter := ⟨GReplicaVoter.val, fun a b h => by rw [GReplicaVoter.val_eq, GReplicaVoter.val_eq] at h; injection h with h; exact Enc.inj _ _ (by simpa using congrArg Array.toList h)⟩
theorem kl192 : KeyLaws Tryz.prog 192 GReplicaVoter where
  chk := fun e k w => by
    show (Instr.checkKey e 10000 192 (GReplicaVoter.val k)).run Tryz.prog w = _
    rw [GReplicaVoter.val_eq]
    rw [run_checkKey_struct e 9999 _ w uu192 nb192, fl192]
    show (chkFs e 9999 k.enc.toArray _).run Tryz.prog w = _
    simp only [chkFs, Sem.run_bind, pt192_0, pt192_1, Result.andThen_ok, run_checkKey_one e 9998 uk3, Sem.run_pure]
  fnd := fnd_struct (fun k k' w => eq_GReplicaVoter w 9998 k k') uu192 (fun k k' => by show Instr.sameNow _ (GReplicaVoter.val k) (GReplicaVoter.val k') = none; rw [GReplicaVoter.val_eq, GReplicaVoter.val_eq]; rfl)
  same := fun k => by
    show Instr.sameBits 10000 (GReplicaVoter.val k) (GReplicaVoter.val k) = true
    rw [GReplicaVoter.val_eq]
    exact sameBits_cells 9999 _ (Enc.one k) (fun u hu => by
      have hu' : u ∈ k.enc := hu
      unfold GReplicaVoter.enc at hu'
      simp only [List.mem_append, List.mem_singleton] at hu'
      rcases hu' with rfl | rfl <;> exact sameBits_int _ _ _)
instance : VEnc GVote := ⟨GVote.val, fun a b h => by rw [GVote.val_eq, GVote.val_eq] at h; injection h with h; exact Enc.inj _ _ (by simpa using congrArg Array.toList h)⟩

/-! ### map[replica.voter]api.Vote -/
theorem um111 : Tryz.prog.underlying 111 = some (.map 192 61) := by kernel_rfl
theorem zv111_61 : zeroT Tryz.prog 61 = some (VEnc.vv (default : GVote)) := by kernel_rfl
@[go_sem ↓ high] theorem xk_111 (ρ : Operand → Value) (dst : Option Tmp) (x y : Operand) (ok : Bool) (ty : TypeId) (pos : String) (after : Array Edge) (guard : Option (Nat × Bool)) : execOp ρ { dst, op := .lookup 111 x y ok, type := ty, pos, after, guard } = (do pure (.value (← gLookup 111 (ρ x) (ρ y) ok))) := ex_lookup ..
@[go_sem ↓ high] theorem xu_111 (ρ : Operand → Value) (dst : Option Tmp) (x y z : Operand) (ty : TypeId) (pos : String) (after : Array Edge) (guard : Option (Nat × Bool)) : execOp ρ { dst, op := .mapUpdate 111 x y z, type := ty, pos, after, guard } = (do gMapUpdate 111 (ρ x) (ρ y) (ρ z); pure .skip) := ex_mapUpdate ..
@[go_sem ↓ high] theorem lk_111 (w : World) (r : Nat) (k : GReplicaVoter) : (gLookup 111 (.map (some r)) (GReplicaVoter.val k) false).run Tryz.prog w = ofOpt ((mapAt GReplicaVoter GVote w r).map fun m => (GVote.val ((mget m k).getD default))) w (noLookup Tryz.prog 111 (.map (some r)) (GReplicaVoter.val k) false w) :=
  run_gLookup kl192 um111 zv111_61 w r k
@[go_sem ↓ high] theorem lo_111 (w : World) (r : Nat) (k : GReplicaVoter) : (gLookup 111 (.map (some r)) (GReplicaVoter.val k) true).run Tryz.prog w = ofOpt ((mapAt GReplicaVoter GVote w r).map fun m => .tuple #[(GVote.val ((mget m k).getD default)), .bool (mget m k).isSome]) w (noLookup Tryz.prog 111 (.map (some r)) (GReplicaVoter.val k) true w) :=
  run_gLookup_ok kl192 um111 zv111_61 w r k
@[go_sem ↓ high] theorem ln_111 (w : World) (k : GReplicaVoter) : (gLookup 111 (.map none) (GReplicaVoter.val k) false).run Tryz.prog w = .ok (GVote.val (default : GVote)) w :=
  run_gLookup_nil kl192 um111 zv111_61 w k
@[go_sem ↓ high] theorem mu_111 (w : World) (r : Nat) (k : GReplicaVoter) (v : GVote) : (gMapUpdate 111 (.map (some r)) (GReplicaVoter.val k) (GVote.val v)).run Tryz.prog w = okU ((mapAt GReplicaVoter GVote w r).isSome) (mput Tryz.prog 111 w r k v) (noUpdate Tryz.prog 111 (.map (some r)) (GReplicaVoter.val k) (GVote.val v) w) :=
  run_gMapUpdate kl192 um111 w r k v
@[go_sem] theorem sz_mput_111 (w : World) (r : Nat) (k : GReplicaVoter) (v : GVote) (h : (mapAt GReplicaVoter GVote w r).isSome = true) : (mput Tryz.prog 111 w r k v).heap.size = w.heap.size := by
  obtain ⟨m, hm⟩ := Option.isSome_iff_exists.1 h; exact mput_size kl192 um111 hm k v

end Go.Proofs.YthkifibmihijaaaGreatDoor
