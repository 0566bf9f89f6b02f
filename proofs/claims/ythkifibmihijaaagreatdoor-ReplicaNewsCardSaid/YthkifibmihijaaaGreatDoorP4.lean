/- The struct types of this seat as Lean types, with the runs of single operations over them. Conditions: those named in each theorem. -/
import Derived.Test.YthkifibmihijaaaGreatDoorP3
/- The struct types of this seat as Lean types, with the runs of single operations over them. Conditions: those named in each theorem. -/
namespace Go.Proofs.YthkifibmihijaaaGreatDoor
open Go Go.RowKit Go.Gv
set_option linter.unusedSimpArgs false

theorem na69 : aggT Tryz.prog 69 = false := by kernel_rfl
theorem us69 : (Tryz.prog.underlying 69).isSome = true := by kernel_rfl

/-! ### gavel/api.Vote -/
structure GVote where
  kind : Int
  epoch : Int
  round : Int
  replica : Int
  hash : GHash
  sig : GSig
deriving DecidableEq
instance : Inhabited GVote := ⟨⟨0, 0, 0, 0, default, default⟩⟩
def GVote.enc (x : GVote) : List Value := [(.int .i64 x.kind)] ++ ([(.int .i64 x.epoch)] ++ ([(.int .i64 x.round)] ++ ([(.int .i64 x.replica)] ++ (x.hash.enc ++ (x.sig.enc)))))
theorem GVote.enc_len (x : GVote) : x.enc.length = 38 := by simp [GVote.enc, GHash.enc_len, GSig.enc_len]
theorem GVote.enc_one (x : GVote) : ∀ u ∈ x.enc, u.oneCell' = true := by
  intro u hu
  simp only [GVote.enc, List.mem_append, List.mem_singleton] at hu
  rcases hu with hu | hu | hu | hu | hu | hu
  · subst hu; rfl
  · subst hu; rfl
  · subst hu; rfl
  · subst hu; rfl
  · exact Enc.one (α := GHash) _ _ hu
  · exact Enc.one (α := GSig) _ _ hu
theorem GVote.enc_inj (x y : GVote) (h : x.enc = y.enc) : x = y := by
  obtain ⟨a0, a1, a2, a3, a4, a5⟩ := x
  obtain ⟨b0, b1, b2, b3, b4, b5⟩ := y
  simp only [GVote.enc] at h
  obtain ⟨p0, q0⟩ := List.append_inj h (rfl)
  have e0 : a0 = b0 := by have := List.head_eq_of_cons_eq p0; injection this
  obtain ⟨p1, q1⟩ := List.append_inj q0 (rfl)
  have e1 : a1 = b1 := by have := List.head_eq_of_cons_eq p1; injection this
  obtain ⟨p2, q2⟩ := List.append_inj q1 (rfl)
  have e2 : a2 = b2 := by have := List.head_eq_of_cons_eq p2; injection this
  obtain ⟨p3, q3⟩ := List.append_inj q2 (rfl)
  have e3 : a3 = b3 := by have := List.head_eq_of_cons_eq p3; injection this
  obtain ⟨p4, q4⟩ := List.append_inj q3 (by simp [GHash.enc_len])
  have e4 := Enc.inj (α := GHash) _ _ p4
  have e5 := Enc.inj (α := GSig) _ _ q4
  rw [e0, e1, e2, e3, e4, e5]
instance : Enc GVote where
  n := 38
  enc := GVote.enc
  pos := by omega
  len := GVote.enc_len
  one := GVote.enc_one
  inj := GVote.enc_inj
@[go_sem] theorem GVote.n_eq : Enc.n GVote = 38 := rfl
@[irreducible] def GVote.val (x : GVote) : Value := .agg x.enc.toArray
theorem GVote.val_eq (x : GVote) : GVote.val x = .agg (Enc.enc x).toArray := by unfold GVote.val; rfl
theorem GVote.ext_all (x y : GVote) : x = y ↔ x.kind = y.kind ∧ x.epoch = y.epoch ∧ x.round = y.round ∧ x.replica = y.replica ∧ x.hash = y.hash ∧ x.sig = y.sig := by
  constructor
  · intro h; cases h; simp
  · intro h; cases x; cases y; simp_all
theorem uu61 : Tryz.prog.underlying 61 = some (.struct (Tryz.prog.fieldsOf 61)) := by kernel_rfl
theorem st61 : Tryz.prog.stoodInHeld 61 = false := by kernel_rfl
theorem fl61 : fieldTO Tryz.prog 61 = [(3, 0), (3, 1), (3, 2), (3, 3), (37, 4), (39, 36)] := by kernel_rfl
theorem nb61 : noBlank Tryz.prog 61 = true := by kernel_rfl
@[go_sem ↓ high] theorem xl_GVote (ρ : Operand → Value) (dst : Option Tmp) (x : Operand) (ty : TypeId) (pos : String) (after : Array Edge) (guard : Option (Nat × Bool)) : execOp ρ { dst, op := .load 61 x, type := ty, pos, after, guard } = (do pure (.value (← gLoad 61 (ρ x)))) := ex_load ..
@[go_sem ↓ high] theorem xs_GVote (ρ : Operand → Value) (dst : Option Tmp) (x y : Operand) (ty : TypeId) (pos : String) (after : Array Edge) (guard : Option (Nat × Bool)) : execOp ρ { dst, op := .store 61 x y, type := ty, pos, after, guard } = (do gStore 61 (ρ x) (ρ y); pure .skip) := ex_store ..
@[go_sem ↓ high] theorem xb_GVote (ρ : Operand → Value) (dst : Option Tmp) (x : Operand) (ty : TypeId) (pos : String) (after : Array Edge) (guard : Option (Nat × Bool)) : execOp ρ { dst, op := .box 61 x, type := ty, pos, after, guard } = (do pure (.value (← gBox 61 (ρ x)))) := ex_box ..
@[go_sem ↓ high] theorem xa_GVote (ρ : Operand → Value) (dst : Option Tmp) (ty : TypeId) (pos : String) (after : Array Edge) (guard : Option (Nat × Bool)) : execOp ρ { dst, op := .alloc 61, type := ty, pos, after, guard } = (do pure (.value (← gAlloc 61))) := ex_alloc ..
theorem ag61 : aggT Tryz.prog 61 = true := by kernel_rfl
theorem sz61 : sizeT Tryz.prog 61 = 38 := by kernel_rfl
section
variable (w : World)
@[go_sem ↓ high] theorem ld_GVote (a : Addr) : (gLoad 61 (.pointer (some a))).run Tryz.prog w = ofOpt ((get? GVote w a).map GVote.val) w (noLoad Tryz.prog 61 a w) := by
  unfold gLoad; exact run_loadAt_opt ag61 sz61 GVote.val GVote.val_eq
@[go_sem ↓ high] theorem st_GVote (a : Addr) (x : GVote) : (gStore 61 (.pointer (some a)) (GVote.val x)).run Tryz.prog w = okU' ((get? GVote w a).isSome && blkFree w a.block) (World.putCells w a (GVote.enc x)) (noStore Tryz.prog 61 (.pointer (some a)) (GVote.val x) w) := run_gStore_any sz61 GVote.val GVote.val_eq w a x
@[go_sem ↓ high] theorem bx_GVote (x : GVote) : (gBox 61 (GVote.val x)).run Tryz.prog w = .ok (.pointer (some ⟨w.heap.size, 0, none⟩)) (w.alloc (.cells (GVote.enc x).toArray 61)) := by
  rw [GVote.val_eq]; exact run_gBox _ w
end
theorem lk61_0 (x : GVote) : x.enc[0]? = some (.int .i64 x.kind) := by
  simp [GVote.enc, List.getElem?_append]
theorem pt61_0 (w : World) (x : GVote) : (part 3 x.enc.toArray 0).run Tryz.prog w = .ok (.int .i64 x.kind) w := run_part_one na3 us3 (lk61_0 x)
@[go_sem ↓ high] theorem fd61_0 (w : World) (x : GVote) : (gField 61 (GVote.val x) 0).run Tryz.prog w = .ok (.int .i64 x.kind) w := by
  rw [GVote.val_eq]
  exact run_gField w uu61 (by rw [fl61]; rfl) (pt61_0 w x)
theorem lk61_1 (x : GVote) : x.enc[1]? = some (.int .i64 x.epoch) := by
  simp [GVote.enc, List.getElem?_append]
theorem pt61_1 (w : World) (x : GVote) : (part 3 x.enc.toArray 1).run Tryz.prog w = .ok (.int .i64 x.epoch) w := run_part_one na3 us3 (lk61_1 x)
@[go_sem ↓ high] theorem fd61_1 (w : World) (x : GVote) : (gField 61 (GVote.val x) 1).run Tryz.prog w = .ok (.int .i64 x.epoch) w := by
  rw [GVote.val_eq]
  exact run_gField w uu61 (by rw [fl61]; rfl) (pt61_1 w x)
theorem lk61_2 (x : GVote) : x.enc[2]? = some (.int .i64 x.round) := by
  simp [GVote.enc, List.getElem?_append]
theorem pt61_2 (w : World) (x : GVote) : (part 3 x.enc.toArray 2).run Tryz.prog w = .ok (.int .i64 x.round) w := run_part_one na3 us3 (lk61_2 x)
@[go_sem ↓ high] theorem fd61_2 (w : World) (x : GVote) : (gField 61 (GVote.val x) 2).run Tryz.prog w = .ok (.int .i64 x.round) w := by
  rw [GVote.val_eq]
  exact run_gField w uu61 (by rw [fl61]; rfl) (pt61_2 w x)
theorem lk61_3 (x : GVote) : x.enc[3]? = some (.int .i64 x.replica) := by
  simp [GVote.enc, List.getElem?_append]
theorem pt61_3 (w : World) (x : GVote) : (part 3 x.enc.toArray 3).run Tryz.prog w = .ok (.int .i64 x.replica) w := run_part_one na3 us3 (lk61_3 x)
@[go_sem ↓ high] theorem fd61_3 (w : World) (x : GVote) : (gField 61 (GVote.val x) 3).run Tryz.prog w = .ok (.int .i64 x.replica) w := by
  rw [GVote.val_eq]
  exact run_gField w uu61 (by rw [fl61]; rfl) (pt61_3 w x)
theorem ds61_4 (x : GVote) : (x.enc.drop 4).take 32 = x.hash.enc := by
  unfold GVote.enc
  simp [List.drop_append, List.drop_eq_nil_of_le] <;> (rw [List.take_append_of_le_length (by simp [GHash.enc_len])]; exact List.take_of_length_le (by simp [GHash.enc_len]))
theorem pt61_4 (w : World) (x : GVote) : (part 37 x.enc.toArray 4).run Tryz.prog w = .ok (x.hash.val) w := by
  have h := run_part_agg (P := Tryz.prog) (w := w) (cs := x.enc) (ds := x.hash.enc) (off := 4) ag37 (by rw [GHash.enc_len]; exact sz37) (by simp [GHash.enc_len]) (by rw [GHash.enc_len]; exact ds61_4 x)
  rw [h, GHash.val_eq]; rfl
@[go_sem ↓ high] theorem fd61_4 (w : World) (x : GVote) : (gField 61 (GVote.val x) 4).run Tryz.prog w = .ok (x.hash.val) w := by
  rw [GVote.val_eq]
  exact run_gField w uu61 (by rw [fl61]; rfl) (pt61_4 w x)
theorem ds61_5 (x : GVote) : (x.enc.drop 36).take 2 = x.sig.enc := by
  unfold GVote.enc
  simp [List.drop_append, List.drop_eq_nil_of_le, GHash.enc_len] <;> (exact List.take_of_length_le (by simp [GSig.enc_len]))
theorem pt61_5 (w : World) (x : GVote) : (part 39 x.enc.toArray 36).run Tryz.prog w = .ok (x.sig.val) w := by
  have h := run_part_agg (P := Tryz.prog) (w := w) (cs := x.enc) (ds := x.sig.enc) (off := 36) ag39 (by rw [GSig.enc_len]; exact sz39) (by simp [GSig.enc_len]) (by rw [GSig.enc_len]; exact ds61_5 x)
  rw [h, GSig.val_eq]; rfl
@[go_sem ↓ high] theorem fd61_5 (w : World) (x : GVote) : (gField 61 (GVote.val x) 5).run Tryz.prog w = .ok (x.sig.val) w := by
  rw [GVote.val_eq]
  exact run_gField w uu61 (by rw [fl61]; rfl) (pt61_5 w x)
@[go_sem ↓ high] theorem xf_GVote (ρ : Operand → Value) (dst : Option Tmp) (x : Operand) (i : Nat) (ty : TypeId) (pos : String) (after : Array Edge) (guard : Option (Nat × Bool)) : execOp ρ { dst, op := .field 61 x i, type := ty, pos, after, guard } = (do pure (.value (← gField 61 (ρ x) i))) := ex_field ..
theorem zr61 : zeroT Tryz.prog 61 = some (.agg (GVote.enc default).toArray) := by kernel_rfl
@[go_sem ↓ high] theorem al_GVote (w : World) : (gAlloc 61).run Tryz.prog w = .ok (.pointer (some ⟨w.heap.size, 0, none⟩)) (w.alloc (.cells (GVote.enc default).toArray 61)) := run_zero_alloc zr61 w
@[go_sem] theorem pc_GVote (w : World) (n : Nat) (x z : GVote) (hn : n = w.heap.size) : World.putCells (w.alloc (.cells (GVote.enc z).toArray 61)) ⟨n, 0, none⟩ (GVote.enc x) = w.alloc (.cells (GVote.enc x).toArray 61) := putCells_top x z hn
theorem GVote.at_kind {w : World} {a : Addr} {x : GVote} (h : get? GVote w a = some x) : w.cell? (a.add 0) = some (.int .i64 x.kind) := (get?_iff.1 h) _ _ (lk61_0 x)
theorem GVote.at_epoch {w : World} {a : Addr} {x : GVote} (h : get? GVote w a = some x) : w.cell? (a.add 1) = some (.int .i64 x.epoch) := (get?_iff.1 h) _ _ (lk61_1 x)
theorem GVote.at_round {w : World} {a : Addr} {x : GVote} (h : get? GVote w a = some x) : w.cell? (a.add 2) = some (.int .i64 x.round) := (get?_iff.1 h) _ _ (lk61_2 x)
theorem GVote.at_replica {w : World} {a : Addr} {x : GVote} (h : get? GVote w a = some x) : w.cell? (a.add 3) = some (.int .i64 x.replica) := (get?_iff.1 h) _ _ (lk61_3 x)
theorem GVote.at_hash {w : World} {a : Addr} {x : GVote} (h : get? GVote w a = some x) : get? GHash w (a.add 4) = some x.hash := by
  rw [get?_iff] at h ⊢
  refine h.sub 4 fun j v hv => ?_
  have hd := ds61_4 x
  have hj : j < 32 := by have := (List.getElem?_eq_some_iff.1 hv).1; rwa [Enc.len] at this
  show x.enc[4 + j]? = some v
  rw [← List.getElem?_drop, ← List.getElem?_take_of_lt hj, hd]; exact hv
theorem GVote.at_sig {w : World} {a : Addr} {x : GVote} (h : get? GVote w a = some x) : get? GSig w (a.add 36) = some x.sig := by
  rw [get?_iff] at h ⊢
  refine h.sub 36 fun j v hv => ?_
  have hd := ds61_5 x
  have hj : j < 2 := by have := (List.getElem?_eq_some_iff.1 hv).1; rwa [Enc.len] at this
  show x.enc[36 + j]? = some v
  rw [← List.getElem?_drop, ← List.getElem?_take_of_lt hj, hd]; exact hv
@[go_sem] theorem nl61_0 (x : GVote) : x.enc[0]? = some (.int .i64 x.kind) := by
  have h := (GVote.at_kind (get?_new (w := (default : World)) 61 x))
  simp only [Addr.add_lit, Nat.zero_add, Nat.reduceAdd, World.cell?_alloc_new, List.getElem?_toArray] at h
  exact h
@[go_sem] theorem nl61_1 (x : GVote) : x.enc[1]? = some (.int .i64 x.epoch) := by
  have h := (GVote.at_epoch (get?_new (w := (default : World)) 61 x))
  simp only [Addr.add_lit, Nat.zero_add, Nat.reduceAdd, World.cell?_alloc_new, List.getElem?_toArray] at h
  exact h
@[go_sem] theorem nl61_2 (x : GVote) : x.enc[2]? = some (.int .i64 x.round) := by
  have h := (GVote.at_round (get?_new (w := (default : World)) 61 x))
  simp only [Addr.add_lit, Nat.zero_add, Nat.reduceAdd, World.cell?_alloc_new, List.getElem?_toArray] at h
  exact h
@[go_sem] theorem nl61_3 (x : GVote) : x.enc[3]? = some (.int .i64 x.replica) := by
  have h := (GVote.at_replica (get?_new (w := (default : World)) 61 x))
  simp only [Addr.add_lit, Nat.zero_add, Nat.reduceAdd, World.cell?_alloc_new, List.getElem?_toArray] at h
  exact h
@[go_sem] theorem nw61_4_GHash (w : World) (n : Nat) (x : GVote) (hn : n = w.heap.size) : get? GHash (w.alloc (.cells (GVote.enc x).toArray 61)) ⟨n, 4, none⟩ = some x.hash := by
  subst hn
  have h := (GVote.at_hash (get?_new (w := w) 61 x))
  simp only [Addr.add_lit, Nat.zero_add, Nat.reduceAdd] at h
  exact h
@[go_sem] theorem nw61_36_GSig (w : World) (n : Nat) (x : GVote) (hn : n = w.heap.size) : get? GSig (w.alloc (.cells (GVote.enc x).toArray 61)) ⟨n, 36, none⟩ = some x.sig := by
  subst hn
  have h := (GVote.at_sig (get?_new (w := w) 61 x))
  simp only [Addr.add_lit, Nat.zero_add, Nat.reduceAdd] at h
  exact h
@[go_sem] theorem nl61_36 (x : GVote) : x.enc[36]? = some (.int .i64 x.sig.by_) := by
  have h := (GSig.at_by_ (GVote.at_sig (get?_new (w := (default : World)) 61 x)))
  simp only [Addr.add_lit, Nat.zero_add, Nat.reduceAdd, World.cell?_alloc_new, List.getElem?_toArray] at h
  exact h
@[go_sem] theorem nl61_37 (x : GVote) : x.enc[37]? = some (.int .i64 x.sig.mark) := by
  have h := (GSig.at_mark (GVote.at_sig (get?_new (w := (default : World)) 61 x)))
  simp only [Addr.add_lit, Nat.zero_add, Nat.reduceAdd, World.cell?_alloc_new, List.getElem?_toArray] at h
  exact h
@[go_sem] theorem nw61 (w : World) (n : Nat) (x : GVote) (hn : n = w.heap.size) : get? GVote (w.alloc (.cells (GVote.enc x).toArray 61)) ⟨n, 0, none⟩ = some x := by
  subst hn; exact get?_new 61 x
theorem pl61 : ((Tryz.prog.fieldsOf 61).toList.mapM fun f => (Tryz.prog.info? f.type).map fun i => (f.offset, i.size)) = some [(0, 1), (1, 1), (2, 1), (3, 1), (4, 32), (36, 2)] := by kernel_rfl
theorem fs61_0 (x : GVote) (v : Int) (rest : List (Nat × Value)) : Instr.fill (fun i => ([(0, 1), (1, 1), (2, 1), (3, 1), (4, 32), (36, 2)] : List (Nat × Nat))[i]?) x.enc.toArray ((0, (.int .i64 v)) :: rest) = Instr.fill (fun i => ([(0, 1), (1, 1), (2, 1), (3, 1), (4, 32), (36, 2)] : List (Nat × Nat))[i]?) ({ x with kind := v } : GVote).enc.toArray rest := by
  have h := fill_seg [(0, 1), (1, 1), (2, 1), (3, 1), (4, 32), (36, 2)] 0 0 1 rfl (([] : List Value)) ([(.int .i64 x.kind)]) ([(.int .i64 x.epoch)] ++ ([(.int .i64 x.round)] ++ ([(.int .i64 x.replica)] ++ (x.hash.enc ++ (x.sig.enc ++ (([] : List Value))))))) ([(.int .i64 v)]) (.int .i64 v) rest (rfl) (by simp [GHash.enc_len, GSig.enc_len]) (by simp [GHash.enc_len, GSig.enc_len]) (by simp [GHash.enc_len, GSig.enc_len])
  have e1 : x.enc = (([] : List Value)) ++ ([(.int .i64 x.kind)] ++ ([(.int .i64 x.epoch)] ++ ([(.int .i64 x.round)] ++ ([(.int .i64 x.replica)] ++ (x.hash.enc ++ (x.sig.enc ++ (([] : List Value)))))))) := by simp only [GVote.enc, List.nil_append, List.append_assoc, List.append_nil]
  have e2 : ({ x with kind := v } : GVote).enc = (([] : List Value)) ++ ([(.int .i64 v)] ++ ([(.int .i64 x.epoch)] ++ ([(.int .i64 x.round)] ++ ([(.int .i64 x.replica)] ++ (x.hash.enc ++ (x.sig.enc ++ (([] : List Value)))))))) := by simp only [GVote.enc, List.nil_append, List.append_assoc, List.append_nil]
  rw [e1, e2]; exact h
theorem fs61_1 (x : GVote) (v : Int) (rest : List (Nat × Value)) : Instr.fill (fun i => ([(0, 1), (1, 1), (2, 1), (3, 1), (4, 32), (36, 2)] : List (Nat × Nat))[i]?) x.enc.toArray ((1, (.int .i64 v)) :: rest) = Instr.fill (fun i => ([(0, 1), (1, 1), (2, 1), (3, 1), (4, 32), (36, 2)] : List (Nat × Nat))[i]?) ({ x with epoch := v } : GVote).enc.toArray rest := by
  have h := fill_seg [(0, 1), (1, 1), (2, 1), (3, 1), (4, 32), (36, 2)] 1 1 1 rfl (([] : List Value) ++ ([(.int .i64 x.kind)])) ([(.int .i64 x.epoch)]) ([(.int .i64 x.round)] ++ ([(.int .i64 x.replica)] ++ (x.hash.enc ++ (x.sig.enc ++ (([] : List Value)))))) ([(.int .i64 v)]) (.int .i64 v) rest (rfl) (by simp [GHash.enc_len, GSig.enc_len]) (by simp [GHash.enc_len, GSig.enc_len]) (by simp [GHash.enc_len, GSig.enc_len])
  have e1 : x.enc = (([] : List Value) ++ ([(.int .i64 x.kind)])) ++ ([(.int .i64 x.epoch)] ++ ([(.int .i64 x.round)] ++ ([(.int .i64 x.replica)] ++ (x.hash.enc ++ (x.sig.enc ++ (([] : List Value))))))) := by simp only [GVote.enc, List.nil_append, List.append_assoc, List.append_nil]
  have e2 : ({ x with epoch := v } : GVote).enc = (([] : List Value) ++ ([(.int .i64 x.kind)])) ++ ([(.int .i64 v)] ++ ([(.int .i64 x.round)] ++ ([(.int .i64 x.replica)] ++ (x.hash.enc ++ (x.sig.enc ++ (([] : List Value))))))) := by simp only [GVote.enc, List.nil_append, List.append_assoc, List.append_nil]
  rw [e1, e2]; exact h
theorem fs61_2 (x : GVote) (v : Int) (rest : List (Nat × Value)) : Instr.fill (fun i => ([(0, 1), (1, 1), (2, 1), (3, 1), (4, 32), (36, 2)] : List (Nat × Nat))[i]?) x.enc.toArray ((2, (.int .i64 v)) :: rest) = Instr.fill (fun i => ([(0, 1), (1, 1), (2, 1), (3, 1), (4, 32), (36, 2)] : List (Nat × Nat))[i]?) ({ x with round := v } : GVote).enc.toArray rest := by
  have h := fill_seg [(0, 1), (1, 1), (2, 1), (3, 1), (4, 32), (36, 2)] 2 2 1 rfl (([] : List Value) ++ ([(.int .i64 x.kind)] ++ ([(.int .i64 x.epoch)]))) ([(.int .i64 x.round)]) ([(.int .i64 x.replica)] ++ (x.hash.enc ++ (x.sig.enc ++ (([] : List Value))))) ([(.int .i64 v)]) (.int .i64 v) rest (rfl) (by simp [GHash.enc_len, GSig.enc_len]) (by simp [GHash.enc_len, GSig.enc_len]) (by simp [GHash.enc_len, GSig.enc_len])
  have e1 : x.enc = (([] : List Value) ++ ([(.int .i64 x.kind)] ++ ([(.int .i64 x.epoch)]))) ++ ([(.int .i64 x.round)] ++ ([(.int .i64 x.replica)] ++ (x.hash.enc ++ (x.sig.enc ++ (([] : List Value)))))) := by simp only [GVote.enc, List.nil_append, List.append_assoc, List.append_nil]
  have e2 : ({ x with round := v } : GVote).enc = (([] : List Value) ++ ([(.int .i64 x.kind)] ++ ([(.int .i64 x.epoch)]))) ++ ([(.int .i64 v)] ++ ([(.int .i64 x.replica)] ++ (x.hash.enc ++ (x.sig.enc ++ (([] : List Value)))))) := by simp only [GVote.enc, List.nil_append, List.append_assoc, List.append_nil]
  rw [e1, e2]; exact h
theorem fs61_3 (x : GVote) (v : Int) (rest : List (Nat × Value)) : Instr.fill (fun i => ([(0, 1), (1, 1), (2, 1), (3, 1), (4, 32), (36, 2)] : List (Nat × Nat))[i]?) x.enc.toArray ((3, (.int .i64 v)) :: rest) = Instr.fill (fun i => ([(0, 1), (1, 1), (2, 1), (3, 1), (4, 32), (36, 2)] : List (Nat × Nat))[i]?) ({ x with replica := v } : GVote).enc.toArray rest := by
  have h := fill_seg [(0, 1), (1, 1), (2, 1), (3, 1), (4, 32), (36, 2)] 3 3 1 rfl (([] : List Value) ++ ([(.int .i64 x.kind)] ++ ([(.int .i64 x.epoch)] ++ ([(.int .i64 x.round)])))) ([(.int .i64 x.replica)]) (x.hash.enc ++ (x.sig.enc ++ (([] : List Value)))) ([(.int .i64 v)]) (.int .i64 v) rest (rfl) (by simp [GHash.enc_len, GSig.enc_len]) (by simp [GHash.enc_len, GSig.enc_len]) (by simp [GHash.enc_len, GSig.enc_len])
  have e1 : x.enc = (([] : List Value) ++ ([(.int .i64 x.kind)] ++ ([(.int .i64 x.epoch)] ++ ([(.int .i64 x.round)])))) ++ ([(.int .i64 x.replica)] ++ (x.hash.enc ++ (x.sig.enc ++ (([] : List Value))))) := by simp only [GVote.enc, List.nil_append, List.append_assoc, List.append_nil]
  have e2 : ({ x with replica := v } : GVote).enc = (([] : List Value) ++ ([(.int .i64 x.kind)] ++ ([(.int .i64 x.epoch)] ++ ([(.int .i64 x.round)])))) ++ ([(.int .i64 v)] ++ (x.hash.enc ++ (x.sig.enc ++ (([] : List Value))))) := by simp only [GVote.enc, List.nil_append, List.append_assoc, List.append_nil]
  rw [e1, e2]; exact h
theorem fs61_4 (x : GVote) (v : GHash) (rest : List (Nat × Value)) : Instr.fill (fun i => ([(0, 1), (1, 1), (2, 1), (3, 1), (4, 32), (36, 2)] : List (Nat × Nat))[i]?) x.enc.toArray ((4, (v.val)) :: rest) = Instr.fill (fun i => ([(0, 1), (1, 1), (2, 1), (3, 1), (4, 32), (36, 2)] : List (Nat × Nat))[i]?) ({ x with hash := v } : GVote).enc.toArray rest := by
  have h := fill_seg [(0, 1), (1, 1), (2, 1), (3, 1), (4, 32), (36, 2)] 4 4 32 rfl (([] : List Value) ++ ([(.int .i64 x.kind)] ++ ([(.int .i64 x.epoch)] ++ ([(.int .i64 x.round)] ++ ([(.int .i64 x.replica)]))))) (x.hash.enc) (x.sig.enc ++ (([] : List Value))) (v.enc) (v.val) rest (by rw [GHash.val_eq]; rfl) (by simp [GHash.enc_len, GSig.enc_len]) (by simp [GHash.enc_len, GSig.enc_len]) (by simp [GHash.enc_len, GSig.enc_len])
  have e1 : x.enc = (([] : List Value) ++ ([(.int .i64 x.kind)] ++ ([(.int .i64 x.epoch)] ++ ([(.int .i64 x.round)] ++ ([(.int .i64 x.replica)]))))) ++ (x.hash.enc ++ (x.sig.enc ++ (([] : List Value)))) := by simp only [GVote.enc, List.nil_append, List.append_assoc, List.append_nil]
  have e2 : ({ x with hash := v } : GVote).enc = (([] : List Value) ++ ([(.int .i64 x.kind)] ++ ([(.int .i64 x.epoch)] ++ ([(.int .i64 x.round)] ++ ([(.int .i64 x.replica)]))))) ++ (v.enc ++ (x.sig.enc ++ (([] : List Value)))) := by simp only [GVote.enc, List.nil_append, List.append_assoc, List.append_nil]
  rw [e1, e2]; exact h
@[go_sem ↓ high] theorem xd_GVote (ρ : Operand → Value) (dst : Option Tmp) (ps : Array (Nat × Operand)) (ty : TypeId) (pos : String) (after : Array Edge) (guard : Option (Nat × Bool)) : execOp ρ { dst, op := .build 61 ps, type := ty, pos, after, guard } = (do pure (.value (← gBuild 61 (ps.map fun (i, x) => (i, ρ x))))) := ex_build ..
@[go_sem ↓ high] theorem bd61_0 (w : World) (v0 : Int) (v1 : Int) (v2 : Int) (v3 : Int) (v4 : GHash) : (gBuild 61 #[(0, (.int .i64 v0)), (1, (.int .i64 v1)), (2, (.int .i64 v2)), (3, (.int .i64 v3)), (4, (v4.val))]).run Tryz.prog w = .ok (GVote.val ⟨v0, v1, v2, v3, v4, default⟩) w := by
  rw [GVote.val_eq]
  refine run_gBuild_of uu61 zr61 pl61 ?_ w
  show Instr.fill _ (GVote.enc default).toArray [(0, (.int .i64 v0)), (1, (.int .i64 v1)), (2, (.int .i64 v2)), (3, (.int .i64 v3)), (4, (v4.val))] = _
  rw [fs61_0, fs61_1, fs61_2, fs61_3, fs61_4]; rfl
theorem eq_GVote (w : World) (d : Nat) (x y : GVote) : (Op.equalIn (d + 3) 61 (GVote.val x) (GVote.val y)).run Tryz.prog w = .ok (decide (x = y)) w := by
  have q0 : ∀ a b, (Op.equalIn (d + 2) 3 (.int .i64 a) (.int .i64 b)).run Tryz.prog w = .ok (decide (a = b)) w := fun a b => by rw [run_equalIn_int w (d + 1) 3 .i64 .i64 a b uk3]; congr 1
  have q1 : ∀ a b, (Op.equalIn (d + 2) 3 (.int .i64 a) (.int .i64 b)).run Tryz.prog w = .ok (decide (a = b)) w := fun a b => by rw [run_equalIn_int w (d + 1) 3 .i64 .i64 a b uk3]; congr 1
  have q2 : ∀ a b, (Op.equalIn (d + 2) 3 (.int .i64 a) (.int .i64 b)).run Tryz.prog w = .ok (decide (a = b)) w := fun a b => by rw [run_equalIn_int w (d + 1) 3 .i64 .i64 a b uk3]; congr 1
  have q3 : ∀ a b, (Op.equalIn (d + 2) 3 (.int .i64 a) (.int .i64 b)).run Tryz.prog w = .ok (decide (a = b)) w := fun a b => by rw [run_equalIn_int w (d + 1) 3 .i64 .i64 a b uk3]; congr 1
  have q4 : (Op.equalIn (d + 2) 37 x.hash.val y.hash.val).run Tryz.prog w = .ok (decide (x.hash = y.hash)) w := eq_GHash w (d + 0) _ _
  have q5 : (Op.equalIn (d + 2) 39 x.sig.val y.sig.val).run Tryz.prog w = .ok (decide (x.sig = y.sig)) w := eq_GSig w (d + 0) _ _
  have h := run_equalIn_fields (d + 2) x.enc.toArray y.enc.toArray w uu61 st61 nb61
  rw [fl61] at h
  unfold GVote.val
  refine h.trans ?_
  clear h
  simp only [eqFs, Sem.run_bind, pt61_0, pt61_1, pt61_2, pt61_3, pt61_4, pt61_5, q0, q1, q2, q3, q4, q5, Result.andThen_ok, Sem.run_ite, Sem.run_pure]
  have he : decide (x = y) = (decide (x.kind = y.kind) && (decide (x.epoch = y.epoch) && (decide (x.round = y.round) && (decide (x.replica = y.replica) && (decide (x.hash = y.hash) && (decide (x.sig = y.sig))))))) := by
    rw [Bool.eq_iff_iff]; simp only [Bool.and_eq_true, decide_eq_true_eq]; exact GVote.ext_all x y
  rw [he]
  generalize decide (x.kind = y.kind) = c0; generalize decide (x.epoch = y.epoch) = c1; generalize decide (x.round = y.round) = c2; generalize decide (x.replica = y.replica) = c3; generalize decide (x.hash = y.hash) = c4; generalize decide (x.sig = y.sig) = c5
  cases c0 <;> cases c1 <;> cases c2 <;> cases c3 <;> cases c4 <;> cases c5 <;> simp
@[go_sem ↓ high] theorem xq_GVote (ρ : Operand → Value) (dst : Option Tmp) (x y : Operand) (ty yt : TypeId) (pos : String) (after : Array Edge) (guard : Option (Nat × Bool)) : execOp ρ { dst, op := .binOp .eql 61 x y yt, type := ty, pos, after, guard } = (do pure (.value (← gBin .eql 61 x y (ρ x) (ρ y)))) := ex_eql ..
@[go_sem ↓ high] theorem xn_GVote (ρ : Operand → Value) (dst : Option Tmp) (x y : Operand) (ty yt : TypeId) (pos : String) (after : Array Edge) (guard : Option (Nat × Bool)) : execOp ρ { dst, op := .binOp .neq 61 x y yt, type := ty, pos, after, guard } = (do pure (.value (← gBin .neq 61 x y (ρ x) (ρ y)))) := ex_neq ..
theorem eg_GVote : Tryz.prog.eqGuardType Tryz.prog.depth 61 = false := by kernel_rfl
@[go_sem ↓ high] theorem eql_GVote (w : World) (ox oy : Operand) (x y : GVote) : (gBin .eql 61 ox oy (GVote.val x) (GVote.val y)).run Tryz.prog w = .ok (.bool (decide (x = y))) w := by
  have h2 := eq_GVote w 9997 x y
  rw [GVote.val_eq, GVote.val_eq] at h2 ⊢
  have h := run_eqGuard_agg (P := Tryz.prog) w .eql 61 ox oy (Enc.enc x).toArray (Enc.enc y).toArray eg_GVote
  unfold gBin
  simp only [Sem.run_bind, h, Result.andThen_ok, run_eql_struct, h2]
@[go_sem ↓ high] theorem neq_GVote (w : World) (ox oy : Operand) (x y : GVote) : (gBin .neq 61 ox oy (GVote.val x) (GVote.val y)).run Tryz.prog w = .ok (.bool (!decide (x = y))) w := by
  have h2 := eq_GVote w 9997 x y
  rw [GVote.val_eq, GVote.val_eq] at h2 ⊢
  have h := run_eqGuard_agg (P := Tryz.prog) w .neq 61 ox oy (Enc.enc x).toArray (Enc.enc y).toArray eg_GVote
  unfold gBin
  simp only [Sem.run_bind, h, Result.andThen_ok, run_neq_struct, h2]

/-! ### gavel/api.Ack -/
structure GAck where
  replica : Int
  name : GName
  hash : GHash
  median : Int
  sig : GSig
deriving DecidableEq
instance : Inhabited GAck := ⟨⟨0, default, default, 0, default⟩⟩
def GAck.enc (x : GAck) : List Value := [(.int .i64 x.replica)] ++ (x.name.enc ++ (x.hash.enc ++ ([(.int .u64 x.median)] ++ (x.sig.enc))))
theorem GAck.enc_len (x : GAck) : x.enc.length = 38 := by simp [GAck.enc, GHash.enc_len, GName.enc_len, GSig.enc_len]
theorem GAck.enc_one (x : GAck) : ∀ u ∈ x.enc, u.oneCell' = true := by
  intro u hu
  simp only [GAck.enc, List.mem_append, List.mem_singleton] at hu
  rcases hu with hu | hu | hu | hu | hu
  · subst hu; rfl
  · exact Enc.one (α := GName) _ _ hu
  · exact Enc.one (α := GHash) _ _ hu
  · subst hu; rfl
  · exact Enc.one (α := GSig) _ _ hu
theorem GAck.enc_inj (x y : GAck) (h : x.enc = y.enc) : x = y := by
  obtain ⟨a0, a1, a2, a3, a4⟩ := x
  obtain ⟨b0, b1, b2, b3, b4⟩ := y
  simp only [GAck.enc] at h
  obtain ⟨p0, q0⟩ := List.append_inj h (rfl)
  have e0 : a0 = b0 := by have := List.head_eq_of_cons_eq p0; injection this
  obtain ⟨p1, q1⟩ := List.append_inj q0 (by simp [GName.enc_len])
  have e1 := Enc.inj (α := GName) _ _ p1
  obtain ⟨p2, q2⟩ := List.append_inj q1 (by simp [GHash.enc_len])
  have e2 := Enc.inj (α := GHash) _ _ p2
  obtain ⟨p3, q3⟩ := List.append_inj q2 (rfl)
  have e3 : a3 = b3 := by have := List.head_eq_of_cons_eq p3; injection this
  have e4 := Enc.inj (α := GSig) _ _ q3
  rw [e0, e1, e2, e3, e4]
instance : Enc GAck where
  n := 38
  enc := GAck.enc
  pos := by omega
  len := GAck.enc_len
  one := GAck.enc_one
  inj := GAck.enc_inj
@[go_sem] theorem GAck.n_eq : Enc.n GAck = 38 := rfl
@[irreducible] def GAck.val (x : GAck) : Value := .agg x.enc.toArray
theorem GAck.val_eq (x : GAck) : GAck.val x = .agg (Enc.enc x).toArray := by unfold GAck.val; rfl
theorem GAck.ext_all (x y : GAck) : x = y ↔ x.replica = y.replica ∧ x.name = y.name ∧ x.hash = y.hash ∧ x.median = y.median ∧ x.sig = y.sig := by
  constructor
  · intro h; cases h; simp
  · intro h; cases x; cases y; simp_all
theorem uu49 : Tryz.prog.underlying 49 = some (.struct (Tryz.prog.fieldsOf 49)) := by kernel_rfl
theorem st49 : Tryz.prog.stoodInHeld 49 = false := by kernel_rfl
theorem fl49 : fieldTO Tryz.prog 49 = [(3, 0), (35, 1), (37, 3), (42, 35), (39, 36)] := by kernel_rfl
theorem nb49 : noBlank Tryz.prog 49 = true := by kernel_rfl
@[go_sem ↓ high] theorem xl_GAck (ρ : Operand → Value) (dst : Option Tmp) (x : Operand) (ty : TypeId) (pos : String) (after : Array Edge) (guard : Option (Nat × Bool)) : execOp ρ { dst, op := .load 49 x, type := ty, pos, after, guard } = (do pure (.value (← gLoad 49 (ρ x)))) := ex_load ..
@[go_sem ↓ high] theorem xs_GAck (ρ : Operand → Value) (dst : Option Tmp) (x y : Operand) (ty : TypeId) (pos : String) (after : Array Edge) (guard : Option (Nat × Bool)) : execOp ρ { dst, op := .store 49 x y, type := ty, pos, after, guard } = (do gStore 49 (ρ x) (ρ y); pure .skip) := ex_store ..
@[go_sem ↓ high] theorem xb_GAck (ρ : Operand → Value) (dst : Option Tmp) (x : Operand) (ty : TypeId) (pos : String) (after : Array Edge) (guard : Option (Nat × Bool)) : execOp ρ { dst, op := .box 49 x, type := ty, pos, after, guard } = (do pure (.value (← gBox 49 (ρ x)))) := ex_box ..
@[go_sem ↓ high] theorem xa_GAck (ρ : Operand → Value) (dst : Option Tmp) (ty : TypeId) (pos : String) (after : Array Edge) (guard : Option (Nat × Bool)) : execOp ρ { dst, op := .alloc 49, type := ty, pos, after, guard } = (do pure (.value (← gAlloc 49))) := ex_alloc ..
theorem ag49 : aggT Tryz.prog 49 = true := by kernel_rfl
theorem sz49 : sizeT Tryz.prog 49 = 38 := by kernel_rfl
section
variable (w : World)
@[go_sem ↓ high] theorem ld_GAck (a : Addr) : (gLoad 49 (.pointer (some a))).run Tryz.prog w = ofOpt ((get? GAck w a).map GAck.val) w (noLoad Tryz.prog 49 a w) := by
  unfold gLoad; exact run_loadAt_opt ag49 sz49 GAck.val GAck.val_eq
@[go_sem ↓ high] theorem st_GAck (a : Addr) (x : GAck) : (gStore 49 (.pointer (some a)) (GAck.val x)).run Tryz.prog w = okU' ((get? GAck w a).isSome && blkFree w a.block) (World.putCells w a (GAck.enc x)) (noStore Tryz.prog 49 (.pointer (some a)) (GAck.val x) w) := run_gStore_any sz49 GAck.val GAck.val_eq w a x
@[go_sem ↓ high] theorem bx_GAck (x : GAck) : (gBox 49 (GAck.val x)).run Tryz.prog w = .ok (.pointer (some ⟨w.heap.size, 0, none⟩)) (w.alloc (.cells (GAck.enc x).toArray 49)) := by
  rw [GAck.val_eq]; exact run_gBox _ w
end
theorem lk49_0 (x : GAck) : x.enc[0]? = some (.int .i64 x.replica) := by
  simp [GAck.enc, List.getElem?_append]
theorem pt49_0 (w : World) (x : GAck) : (part 3 x.enc.toArray 0).run Tryz.prog w = .ok (.int .i64 x.replica) w := run_part_one na3 us3 (lk49_0 x)
@[go_sem ↓ high] theorem fd49_0 (w : World) (x : GAck) : (gField 49 (GAck.val x) 0).run Tryz.prog w = .ok (.int .i64 x.replica) w := by
  rw [GAck.val_eq]
  exact run_gField w uu49 (by rw [fl49]; rfl) (pt49_0 w x)
theorem ds49_1 (x : GAck) : (x.enc.drop 1).take 2 = x.name.enc := by
  unfold GAck.enc
  simp [List.drop_append, List.drop_eq_nil_of_le] <;> (rw [List.take_append_of_le_length (by simp [GName.enc_len])]; exact List.take_of_length_le (by simp [GName.enc_len]))
theorem pt49_1 (w : World) (x : GAck) : (part 35 x.enc.toArray 1).run Tryz.prog w = .ok (x.name.val) w := by
  have h := run_part_agg (P := Tryz.prog) (w := w) (cs := x.enc) (ds := x.name.enc) (off := 1) ag35 (by rw [GName.enc_len]; exact sz35) (by simp [GName.enc_len]) (by rw [GName.enc_len]; exact ds49_1 x)
  rw [h, GName.val_eq]; rfl
@[go_sem ↓ high] theorem fd49_1 (w : World) (x : GAck) : (gField 49 (GAck.val x) 1).run Tryz.prog w = .ok (x.name.val) w := by
  rw [GAck.val_eq]
  exact run_gField w uu49 (by rw [fl49]; rfl) (pt49_1 w x)
theorem ds49_2 (x : GAck) : (x.enc.drop 3).take 32 = x.hash.enc := by
  unfold GAck.enc
  simp [List.drop_append, List.drop_eq_nil_of_le, GName.enc_len] <;> (rw [List.take_append_of_le_length (by simp [GHash.enc_len])]; exact List.take_of_length_le (by simp [GHash.enc_len]))
theorem pt49_2 (w : World) (x : GAck) : (part 37 x.enc.toArray 3).run Tryz.prog w = .ok (x.hash.val) w := by
  have h := run_part_agg (P := Tryz.prog) (w := w) (cs := x.enc) (ds := x.hash.enc) (off := 3) ag37 (by rw [GHash.enc_len]; exact sz37) (by simp [GHash.enc_len]) (by rw [GHash.enc_len]; exact ds49_2 x)
  rw [h, GHash.val_eq]; rfl
@[go_sem ↓ high] theorem fd49_2 (w : World) (x : GAck) : (gField 49 (GAck.val x) 2).run Tryz.prog w = .ok (x.hash.val) w := by
  rw [GAck.val_eq]
  exact run_gField w uu49 (by rw [fl49]; rfl) (pt49_2 w x)
theorem lk49_3 (x : GAck) : x.enc[35]? = some (.int .u64 x.median) := by
  simp [GAck.enc, List.getElem?_append, GHash.enc_len, GName.enc_len]
theorem pt49_3 (w : World) (x : GAck) : (part 42 x.enc.toArray 35).run Tryz.prog w = .ok (.int .u64 x.median) w := run_part_one na42 us42 (lk49_3 x)
@[go_sem ↓ high] theorem fd49_3 (w : World) (x : GAck) : (gField 49 (GAck.val x) 3).run Tryz.prog w = .ok (.int .u64 x.median) w := by
  rw [GAck.val_eq]
  exact run_gField w uu49 (by rw [fl49]; rfl) (pt49_3 w x)
theorem ds49_4 (x : GAck) : (x.enc.drop 36).take 2 = x.sig.enc := by
  unfold GAck.enc
  simp [List.drop_append, List.drop_eq_nil_of_le, GHash.enc_len, GName.enc_len] <;> (exact List.take_of_length_le (by simp [GSig.enc_len]))
theorem pt49_4 (w : World) (x : GAck) : (part 39 x.enc.toArray 36).run Tryz.prog w = .ok (x.sig.val) w := by
  have h := run_part_agg (P := Tryz.prog) (w := w) (cs := x.enc) (ds := x.sig.enc) (off := 36) ag39 (by rw [GSig.enc_len]; exact sz39) (by simp [GSig.enc_len]) (by rw [GSig.enc_len]; exact ds49_4 x)
  rw [h, GSig.val_eq]; rfl
@[go_sem ↓ high] theorem fd49_4 (w : World) (x : GAck) : (gField 49 (GAck.val x) 4).run Tryz.prog w = .ok (x.sig.val) w := by
  rw [GAck.val_eq]
  exact run_gField w uu49 (by rw [fl49]; rfl) (pt49_4 w x)
@[go_sem ↓ high] theorem xf_GAck (ρ : Operand → Value) (dst : Option Tmp) (x : Operand) (i : Nat) (ty : TypeId) (pos : String) (after : Array Edge) (guard : Option (Nat × Bool)) : execOp ρ { dst, op := .field 49 x i, type := ty, pos, after, guard } = (do pure (.value (← gField 49 (ρ x) i))) := ex_field ..
theorem zr49 : zeroT Tryz.prog 49 = some (.agg (GAck.enc default).toArray) := by kernel_rfl
@[go_sem ↓ high] theorem al_GAck (w : World) : (gAlloc 49).run Tryz.prog w = .ok (.pointer (some ⟨w.heap.size, 0, none⟩)) (w.alloc (.cells (GAck.enc default).toArray 49)) := run_zero_alloc zr49 w
@[go_sem] theorem pc_GAck (w : World) (n : Nat) (x z : GAck) (hn : n = w.heap.size) : World.putCells (w.alloc (.cells (GAck.enc z).toArray 49)) ⟨n, 0, none⟩ (GAck.enc x) = w.alloc (.cells (GAck.enc x).toArray 49) := putCells_top x z hn
theorem GAck.at_replica {w : World} {a : Addr} {x : GAck} (h : get? GAck w a = some x) : w.cell? (a.add 0) = some (.int .i64 x.replica) := (get?_iff.1 h) _ _ (lk49_0 x)
theorem GAck.at_name {w : World} {a : Addr} {x : GAck} (h : get? GAck w a = some x) : get? GName w (a.add 1) = some x.name := by
  rw [get?_iff] at h ⊢
  refine h.sub 1 fun j v hv => ?_
  have hd := ds49_1 x
  have hj : j < 2 := by have := (List.getElem?_eq_some_iff.1 hv).1; rwa [Enc.len] at this
  show x.enc[1 + j]? = some v
  rw [← List.getElem?_drop, ← List.getElem?_take_of_lt hj, hd]; exact hv
theorem GAck.at_hash {w : World} {a : Addr} {x : GAck} (h : get? GAck w a = some x) : get? GHash w (a.add 3) = some x.hash := by
  rw [get?_iff] at h ⊢
  refine h.sub 3 fun j v hv => ?_
  have hd := ds49_2 x
  have hj : j < 32 := by have := (List.getElem?_eq_some_iff.1 hv).1; rwa [Enc.len] at this
  show x.enc[3 + j]? = some v
  rw [← List.getElem?_drop, ← List.getElem?_take_of_lt hj, hd]; exact hv
theorem GAck.at_median {w : World} {a : Addr} {x : GAck} (h : get? GAck w a = some x) : w.cell? (a.add 35) = some (.int .u64 x.median) := (get?_iff.1 h) _ _ (lk49_3 x)
theorem GAck.at_sig {w : World} {a : Addr} {x : GAck} (h : get? GAck w a = some x) : get? GSig w (a.add 36) = some x.sig := by
  rw [get?_iff] at h ⊢
  refine h.sub 36 fun j v hv => ?_
  have hd := ds49_4 x
  have hj : j < 2 := by have := (List.getElem?_eq_some_iff.1 hv).1; rwa [Enc.len] at this
  show x.enc[36 + j]? = some v
  rw [← List.getElem?_drop, ← List.getElem?_take_of_lt hj, hd]; exact hv
@[go_sem] theorem nl49_0 (x : GAck) : x.enc[0]? = some (.int .i64 x.replica) := by
  have h := (GAck.at_replica (get?_new (w := (default : World)) 49 x))
  simp only [Addr.add_lit, Nat.zero_add, Nat.reduceAdd, World.cell?_alloc_new, List.getElem?_toArray] at h
  exact h
@[go_sem] theorem nw49_1_GName (w : World) (n : Nat) (x : GAck) (hn : n = w.heap.size) : get? GName (w.alloc (.cells (GAck.enc x).toArray 49)) ⟨n, 1, none⟩ = some x.name := by
  subst hn
  have h := (GAck.at_name (get?_new (w := w) 49 x))
  simp only [Addr.add_lit, Nat.zero_add, Nat.reduceAdd] at h
  exact h
@[go_sem] theorem nl49_1 (x : GAck) : x.enc[1]? = some (.int .i64 x.name.client) := by
  have h := (GName.at_client (GAck.at_name (get?_new (w := (default : World)) 49 x)))
  simp only [Addr.add_lit, Nat.zero_add, Nat.reduceAdd, World.cell?_alloc_new, List.getElem?_toArray] at h
  exact h
@[go_sem] theorem nl49_2 (x : GAck) : x.enc[2]? = some (.int .i64 x.name.seq) := by
  have h := (GName.at_seq (GAck.at_name (get?_new (w := (default : World)) 49 x)))
  simp only [Addr.add_lit, Nat.zero_add, Nat.reduceAdd, World.cell?_alloc_new, List.getElem?_toArray] at h
  exact h
@[go_sem] theorem nw49_3_GHash (w : World) (n : Nat) (x : GAck) (hn : n = w.heap.size) : get? GHash (w.alloc (.cells (GAck.enc x).toArray 49)) ⟨n, 3, none⟩ = some x.hash := by
  subst hn
  have h := (GAck.at_hash (get?_new (w := w) 49 x))
  simp only [Addr.add_lit, Nat.zero_add, Nat.reduceAdd] at h
  exact h
@[go_sem] theorem nl49_35 (x : GAck) : x.enc[35]? = some (.int .u64 x.median) := by
  have h := (GAck.at_median (get?_new (w := (default : World)) 49 x))
  simp only [Addr.add_lit, Nat.zero_add, Nat.reduceAdd, World.cell?_alloc_new, List.getElem?_toArray] at h
  exact h
@[go_sem] theorem nw49_36_GSig (w : World) (n : Nat) (x : GAck) (hn : n = w.heap.size) : get? GSig (w.alloc (.cells (GAck.enc x).toArray 49)) ⟨n, 36, none⟩ = some x.sig := by
  subst hn
  have h := (GAck.at_sig (get?_new (w := w) 49 x))
  simp only [Addr.add_lit, Nat.zero_add, Nat.reduceAdd] at h
  exact h
@[go_sem] theorem nl49_36 (x : GAck) : x.enc[36]? = some (.int .i64 x.sig.by_) := by
  have h := (GSig.at_by_ (GAck.at_sig (get?_new (w := (default : World)) 49 x)))
  simp only [Addr.add_lit, Nat.zero_add, Nat.reduceAdd, World.cell?_alloc_new, List.getElem?_toArray] at h
  exact h
@[go_sem] theorem nl49_37 (x : GAck) : x.enc[37]? = some (.int .i64 x.sig.mark) := by
  have h := (GSig.at_mark (GAck.at_sig (get?_new (w := (default : World)) 49 x)))
  simp only [Addr.add_lit, Nat.zero_add, Nat.reduceAdd, World.cell?_alloc_new, List.getElem?_toArray] at h
  exact h
@[go_sem] theorem nw49 (w : World) (n : Nat) (x : GAck) (hn : n = w.heap.size) : get? GAck (w.alloc (.cells (GAck.enc x).toArray 49)) ⟨n, 0, none⟩ = some x := by
  subst hn; exact get?_new 49 x
theorem pl49 : ((Tryz.prog.fieldsOf 49).toList.mapM fun f => (Tryz.prog.info? f.type).map fun i => (f.offset, i.size)) = some [(0, 1), (1, 2), (3, 32), (35, 1), (36, 2)] := by kernel_rfl
theorem fs49_0 (x : GAck) (v : Int) (rest : List (Nat × Value)) : Instr.fill (fun i => ([(0, 1), (1, 2), (3, 32), (35, 1), (36, 2)] : List (Nat × Nat))[i]?) x.enc.toArray ((0, (.int .i64 v)) :: rest) = Instr.fill (fun i => ([(0, 1), (1, 2), (3, 32), (35, 1), (36, 2)] : List (Nat × Nat))[i]?) ({ x with replica := v } : GAck).enc.toArray rest := by
  have h := fill_seg [(0, 1), (1, 2), (3, 32), (35, 1), (36, 2)] 0 0 1 rfl (([] : List Value)) ([(.int .i64 x.replica)]) (x.name.enc ++ (x.hash.enc ++ ([(.int .u64 x.median)] ++ (x.sig.enc ++ (([] : List Value)))))) ([(.int .i64 v)]) (.int .i64 v) rest (rfl) (by simp [GHash.enc_len, GName.enc_len, GSig.enc_len]) (by simp [GHash.enc_len, GName.enc_len, GSig.enc_len]) (by simp [GHash.enc_len, GName.enc_len, GSig.enc_len])
  have e1 : x.enc = (([] : List Value)) ++ ([(.int .i64 x.replica)] ++ (x.name.enc ++ (x.hash.enc ++ ([(.int .u64 x.median)] ++ (x.sig.enc ++ (([] : List Value))))))) := by simp only [GAck.enc, List.nil_append, List.append_assoc, List.append_nil]
  have e2 : ({ x with replica := v } : GAck).enc = (([] : List Value)) ++ ([(.int .i64 v)] ++ (x.name.enc ++ (x.hash.enc ++ ([(.int .u64 x.median)] ++ (x.sig.enc ++ (([] : List Value))))))) := by simp only [GAck.enc, List.nil_append, List.append_assoc, List.append_nil]
  rw [e1, e2]; exact h
theorem fs49_1 (x : GAck) (v : GName) (rest : List (Nat × Value)) : Instr.fill (fun i => ([(0, 1), (1, 2), (3, 32), (35, 1), (36, 2)] : List (Nat × Nat))[i]?) x.enc.toArray ((1, (v.val)) :: rest) = Instr.fill (fun i => ([(0, 1), (1, 2), (3, 32), (35, 1), (36, 2)] : List (Nat × Nat))[i]?) ({ x with name := v } : GAck).enc.toArray rest := by
  have h := fill_seg [(0, 1), (1, 2), (3, 32), (35, 1), (36, 2)] 1 1 2 rfl (([] : List Value) ++ ([(.int .i64 x.replica)])) (x.name.enc) (x.hash.enc ++ ([(.int .u64 x.median)] ++ (x.sig.enc ++ (([] : List Value))))) (v.enc) (v.val) rest (by rw [GName.val_eq]; rfl) (by simp [GHash.enc_len, GName.enc_len, GSig.enc_len]) (by simp [GHash.enc_len, GName.enc_len, GSig.enc_len]) (by simp [GHash.enc_len, GName.enc_len, GSig.enc_len])
  have e1 : x.enc = (([] : List Value) ++ ([(.int .i64 x.replica)])) ++ (x.name.enc ++ (x.hash.enc ++ ([(.int .u64 x.median)] ++ (x.sig.enc ++ (([] : List Value)))))) := by simp only [GAck.enc, List.nil_append, List.append_assoc, List.append_nil]
  have e2 : ({ x with name := v } : GAck).enc = (([] : List Value) ++ ([(.int .i64 x.replica)])) ++ (v.enc ++ (x.hash.enc ++ ([(.int .u64 x.median)] ++ (x.sig.enc ++ (([] : List Value)))))) := by simp only [GAck.enc, List.nil_append, List.append_assoc, List.append_nil]
  rw [e1, e2]; exact h
theorem fs49_2 (x : GAck) (v : GHash) (rest : List (Nat × Value)) : Instr.fill (fun i => ([(0, 1), (1, 2), (3, 32), (35, 1), (36, 2)] : List (Nat × Nat))[i]?) x.enc.toArray ((2, (v.val)) :: rest) = Instr.fill (fun i => ([(0, 1), (1, 2), (3, 32), (35, 1), (36, 2)] : List (Nat × Nat))[i]?) ({ x with hash := v } : GAck).enc.toArray rest := by
  have h := fill_seg [(0, 1), (1, 2), (3, 32), (35, 1), (36, 2)] 2 3 32 rfl (([] : List Value) ++ ([(.int .i64 x.replica)] ++ (x.name.enc))) (x.hash.enc) ([(.int .u64 x.median)] ++ (x.sig.enc ++ (([] : List Value)))) (v.enc) (v.val) rest (by rw [GHash.val_eq]; rfl) (by simp [GHash.enc_len, GName.enc_len, GSig.enc_len]) (by simp [GHash.enc_len, GName.enc_len, GSig.enc_len]) (by simp [GHash.enc_len, GName.enc_len, GSig.enc_len])
  have e1 : x.enc = (([] : List Value) ++ ([(.int .i64 x.replica)] ++ (x.name.enc))) ++ (x.hash.enc ++ ([(.int .u64 x.median)] ++ (x.sig.enc ++ (([] : List Value))))) := by simp only [GAck.enc, List.nil_append, List.append_assoc, List.append_nil]
  have e2 : ({ x with hash := v } : GAck).enc = (([] : List Value) ++ ([(.int .i64 x.replica)] ++ (x.name.enc))) ++ (v.enc ++ ([(.int .u64 x.median)] ++ (x.sig.enc ++ (([] : List Value))))) := by simp only [GAck.enc, List.nil_append, List.append_assoc, List.append_nil]
  rw [e1, e2]; exact h
theorem fs49_3 (x : GAck) (v : Int) (rest : List (Nat × Value)) : Instr.fill (fun i => ([(0, 1), (1, 2), (3, 32), (35, 1), (36, 2)] : List (Nat × Nat))[i]?) x.enc.toArray ((3, (.int .u64 v)) :: rest) = Instr.fill (fun i => ([(0, 1), (1, 2), (3, 32), (35, 1), (36, 2)] : List (Nat × Nat))[i]?) ({ x with median := v } : GAck).enc.toArray rest := by
  have h := fill_seg [(0, 1), (1, 2), (3, 32), (35, 1), (36, 2)] 3 35 1 rfl (([] : List Value) ++ ([(.int .i64 x.replica)] ++ (x.name.enc ++ (x.hash.enc)))) ([(.int .u64 x.median)]) (x.sig.enc ++ (([] : List Value))) ([(.int .u64 v)]) (.int .u64 v) rest (rfl) (by simp [GHash.enc_len, GName.enc_len, GSig.enc_len]) (by simp [GHash.enc_len, GName.enc_len, GSig.enc_len]) (by simp [GHash.enc_len, GName.enc_len, GSig.enc_len])
  have e1 : x.enc = (([] : List Value) ++ ([(.int .i64 x.replica)] ++ (x.name.enc ++ (x.hash.enc)))) ++ ([(.int .u64 x.median)] ++ (x.sig.enc ++ (([] : List Value)))) := by simp only [GAck.enc, List.nil_append, List.append_assoc, List.append_nil]
  have e2 : ({ x with median := v } : GAck).enc = (([] : List Value) ++ ([(.int .i64 x.replica)] ++ (x.name.enc ++ (x.hash.enc)))) ++ ([(.int .u64 v)] ++ (x.sig.enc ++ (([] : List Value)))) := by simp only [GAck.enc, List.nil_append, List.append_assoc, List.append_nil]
  rw [e1, e2]; exact h
@[go_sem ↓ high] theorem xd_GAck (ρ : Operand → Value) (dst : Option Tmp) (ps : Array (Nat × Operand)) (ty : TypeId) (pos : String) (after : Array Edge) (guard : Option (Nat × Bool)) : execOp ρ { dst, op := .build 49 ps, type := ty, pos, after, guard } = (do pure (.value (← gBuild 49 (ps.map fun (i, x) => (i, ρ x))))) := ex_build ..
@[go_sem ↓ high] theorem bd49_0 (w : World) (v0 : Int) (v1 : GName) (v2 : GHash) (v3 : Int) : (gBuild 49 #[(0, (.int .i64 v0)), (1, (v1.val)), (2, (v2.val)), (3, (.int .u64 v3))]).run Tryz.prog w = .ok (GAck.val ⟨v0, v1, v2, v3, default⟩) w := by
  rw [GAck.val_eq]
  refine run_gBuild_of uu49 zr49 pl49 ?_ w
  show Instr.fill _ (GAck.enc default).toArray [(0, (.int .i64 v0)), (1, (v1.val)), (2, (v2.val)), (3, (.int .u64 v3))] = _
  rw [fs49_0, fs49_1, fs49_2, fs49_3]; rfl
theorem eq_GAck (w : World) (d : Nat) (x y : GAck) : (Op.equalIn (d + 3) 49 (GAck.val x) (GAck.val y)).run Tryz.prog w = .ok (decide (x = y)) w := by
  have q0 : ∀ a b, (Op.equalIn (d + 2) 3 (.int .i64 a) (.int .i64 b)).run Tryz.prog w = .ok (decide (a = b)) w := fun a b => by rw [run_equalIn_int w (d + 1) 3 .i64 .i64 a b uk3]; congr 1
  have q1 : (Op.equalIn (d + 2) 35 x.name.val y.name.val).run Tryz.prog w = .ok (decide (x.name = y.name)) w := eq_GName w (d + 0) _ _
  have q2 : (Op.equalIn (d + 2) 37 x.hash.val y.hash.val).run Tryz.prog w = .ok (decide (x.hash = y.hash)) w := eq_GHash w (d + 0) _ _
  have q3 : ∀ a b, (Op.equalIn (d + 2) 42 (.int .u64 a) (.int .u64 b)).run Tryz.prog w = .ok (decide (a = b)) w := fun a b => by rw [run_equalIn_int w (d + 1) 42 .u64 .u64 a b uk42]; congr 1
  have q4 : (Op.equalIn (d + 2) 39 x.sig.val y.sig.val).run Tryz.prog w = .ok (decide (x.sig = y.sig)) w := eq_GSig w (d + 0) _ _
  have h := run_equalIn_fields (d + 2) x.enc.toArray y.enc.toArray w uu49 st49 nb49
  rw [fl49] at h
  unfold GAck.val
  refine h.trans ?_
  clear h
  simp only [eqFs, Sem.run_bind, pt49_0, pt49_1, pt49_2, pt49_3, pt49_4, q0, q1, q2, q3, q4, Result.andThen_ok, Sem.run_ite, Sem.run_pure]
  have he : decide (x = y) = (decide (x.replica = y.replica) && (decide (x.name = y.name) && (decide (x.hash = y.hash) && (decide (x.median = y.median) && (decide (x.sig = y.sig)))))) := by
    rw [Bool.eq_iff_iff]; simp only [Bool.and_eq_true, decide_eq_true_eq]; exact GAck.ext_all x y
  rw [he]
  generalize decide (x.replica = y.replica) = c0; generalize decide (x.name = y.name) = c1; generalize decide (x.hash = y.hash) = c2; generalize decide (x.median = y.median) = c3; generalize decide (x.sig = y.sig) = c4
  cases c0 <;> cases c1 <;> cases c2 <;> cases c3 <;> cases c4 <;> simp
@[go_sem ↓ high] theorem xq_GAck (ρ : Operand → Value) (dst : Option Tmp) (x y : Operand) (ty yt : TypeId) (pos : String) (after : Array Edge) (guard : Option (Nat × Bool)) : execOp ρ { dst, op := .binOp .eql 49 x y yt, type := ty, pos, after, guard } = (do pure (.value (← gBin .eql 49 x y (ρ x) (ρ y)))) := ex_eql ..
@[go_sem ↓ high] theorem xn_GAck (ρ : Operand → Value) (dst : Option Tmp) (x y : Operand) (ty yt : TypeId) (pos : String) (after : Array Edge) (guard : Option (Nat × Bool)) : execOp ρ { dst, op := .binOp .neq 49 x y yt, type := ty, pos, after, guard } = (do pure (.value (← gBin .neq 49 x y (ρ x) (ρ y)))) := ex_neq ..
theorem eg_GAck : Tryz.prog.eqGuardType Tryz.prog.depth 49 = false := by kernel_rfl
@[go_sem ↓ high] theorem eql_GAck (w : World) (ox oy : Operand) (x y : GAck) : (gBin .eql 49 ox oy (GAck.val x) (GAck.val y)).run Tryz.prog w = .ok (.bool (decide (x = y))) w := by
  have h2 := eq_GAck w 9997 x y
  rw [GAck.val_eq, GAck.val_eq] at h2 ⊢
  have h := run_eqGuard_agg (P := Tryz.prog) w .eql 49 ox oy (Enc.enc x).toArray (Enc.enc y).toArray eg_GAck
  unfold gBin
  simp only [Sem.run_bind, h, Result.andThen_ok, run_eql_struct, h2]
@[go_sem ↓ high] theorem neq_GAck (w : World) (ox oy : Operand) (x y : GAck) : (gBin .neq 49 ox oy (GAck.val x) (GAck.val y)).run Tryz.prog w = .ok (.bool (!decide (x = y))) w := by
  have h2 := eq_GAck w 9997 x y
  rw [GAck.val_eq, GAck.val_eq] at h2 ⊢
  have h := run_eqGuard_agg (P := Tryz.prog) w .neq 49 ox oy (Enc.enc x).toArray (Enc.enc y).toArray eg_GAck
  unfold gBin
  simp only [Sem.run_bind, h, Result.andThen_ok, run_neq_struct, h2]

/-! ### gavel/api.Proposal -/
structure GProposal where
  epoch : Int
  round : Int
  valid : Int
  replica : Int
  batch : GBatch
  sig : GSig
deriving DecidableEq
instance : Inhabited GProposal := ⟨⟨0, 0, 0, 0, default, default⟩⟩
def GProposal.enc (x : GProposal) : List Value := [(.int .i64 x.epoch)] ++ ([(.int .i64 x.round)] ++ ([(.int .i64 x.valid)] ++ ([(.int .i64 x.replica)] ++ (x.batch.enc ++ (x.sig.enc)))))
theorem GProposal.enc_len (x : GProposal) : x.enc.length = 11 := by simp [GProposal.enc, GBatch.enc_len, GSig.enc_len]
theorem GProposal.enc_one (x : GProposal) : ∀ u ∈ x.enc, u.oneCell' = true := by
  intro u hu
  simp only [GProposal.enc, List.mem_append, List.mem_singleton] at hu
  rcases hu with hu | hu | hu | hu | hu | hu
  · subst hu; rfl
  · subst hu; rfl
  · subst hu; rfl
  · subst hu; rfl
  · exact Enc.one (α := GBatch) _ _ hu
  · exact Enc.one (α := GSig) _ _ hu
theorem GProposal.enc_inj (x y : GProposal) (h : x.enc = y.enc) : x = y := by
  obtain ⟨a0, a1, a2, a3, a4, a5⟩ := x
  obtain ⟨b0, b1, b2, b3, b4, b5⟩ := y
  simp only [GProposal.enc] at h
  obtain ⟨p0, q0⟩ := List.append_inj h (rfl)
  have e0 : a0 = b0 := by have := List.head_eq_of_cons_eq p0; injection this
  obtain ⟨p1, q1⟩ := List.append_inj q0 (rfl)
  have e1 : a1 = b1 := by have := List.head_eq_of_cons_eq p1; injection this
  obtain ⟨p2, q2⟩ := List.append_inj q1 (rfl)
  have e2 : a2 = b2 := by have := List.head_eq_of_cons_eq p2; injection this
  obtain ⟨p3, q3⟩ := List.append_inj q2 (rfl)
  have e3 : a3 = b3 := by have := List.head_eq_of_cons_eq p3; injection this
  obtain ⟨p4, q4⟩ := List.append_inj q3 (by simp [GBatch.enc_len])
  have e4 := Enc.inj (α := GBatch) _ _ p4
  have e5 := Enc.inj (α := GSig) _ _ q4
  rw [e0, e1, e2, e3, e4, e5]
instance : Enc GProposal where
  n := 11
  enc := GProposal.enc
  pos := by omega
  len := GProposal.enc_len
  one := GProposal.enc_one
  inj := GProposal.enc_inj
@[go_sem] theorem GProposal.n_eq : Enc.n GProposal = 11 := rfl
@[irreducible] def GProposal.val (x : GProposal) : Value := .agg x.enc.toArray
theorem GProposal.val_eq (x : GProposal) : GProposal.val x = .agg (Enc.enc x).toArray := by unfold GProposal.val; rfl
theorem GProposal.ext_all (x y : GProposal) : x = y ↔ x.epoch = y.epoch ∧ x.round = y.round ∧ x.valid = y.valid ∧ x.replica = y.replica ∧ x.batch = y.batch ∧ x.sig = y.sig := by
  constructor
  · intro h; cases h; simp
  · intro h; cases x; cases y; simp_all
theorem uu59 : Tryz.prog.underlying 59 = some (.struct (Tryz.prog.fieldsOf 59)) := by kernel_rfl
theorem st59 : Tryz.prog.stoodInHeld 59 = false := by kernel_rfl
theorem fl59 : fieldTO Tryz.prog 59 = [(3, 0), (3, 1), (3, 2), (3, 3), (57, 4), (39, 9)] := by kernel_rfl
theorem nb59 : noBlank Tryz.prog 59 = true := by kernel_rfl
@[go_sem ↓ high] theorem xl_GProposal (ρ : Operand → Value) (dst : Option Tmp) (x : Operand) (ty : TypeId) (pos : String) (after : Array Edge) (guard : Option (Nat × Bool)) : execOp ρ { dst, op := .load 59 x, type := ty, pos, after, guard } = (do pure (.value (← gLoad 59 (ρ x)))) := ex_load ..
@[go_sem ↓ high] theorem xs_GProposal (ρ : Operand → Value) (dst : Option Tmp) (x y : Operand) (ty : TypeId) (pos : String) (after : Array Edge) (guard : Option (Nat × Bool)) : execOp ρ { dst, op := .store 59 x y, type := ty, pos, after, guard } = (do gStore 59 (ρ x) (ρ y); pure .skip) := ex_store ..
@[go_sem ↓ high] theorem xb_GProposal (ρ : Operand → Value) (dst : Option Tmp) (x : Operand) (ty : TypeId) (pos : String) (after : Array Edge) (guard : Option (Nat × Bool)) : execOp ρ { dst, op := .box 59 x, type := ty, pos, after, guard } = (do pure (.value (← gBox 59 (ρ x)))) := ex_box ..
@[go_sem ↓ high] theorem xa_GProposal (ρ : Operand → Value) (dst : Option Tmp) (ty : TypeId) (pos : String) (after : Array Edge) (guard : Option (Nat × Bool)) : execOp ρ { dst, op := .alloc 59, type := ty, pos, after, guard } = (do pure (.value (← gAlloc 59))) := ex_alloc ..
theorem ag59 : aggT Tryz.prog 59 = true := by kernel_rfl
theorem sz59 : sizeT Tryz.prog 59 = 11 := by kernel_rfl
section
variable (w : World)
@[go_sem ↓ high] theorem ld_GProposal (a : Addr) : (gLoad 59 (.pointer (some a))).run Tryz.prog w = ofOpt ((get? GProposal w a).map GProposal.val) w (noLoad Tryz.prog 59 a w) := by
  unfold gLoad; exact run_loadAt_opt ag59 sz59 GProposal.val GProposal.val_eq
@[go_sem ↓ high] theorem st_GProposal (a : Addr) (x : GProposal) : (gStore 59 (.pointer (some a)) (GProposal.val x)).run Tryz.prog w = okU' ((get? GProposal w a).isSome && blkFree w a.block) (World.putCells w a (GProposal.enc x)) (noStore Tryz.prog 59 (.pointer (some a)) (GProposal.val x) w) := run_gStore_any sz59 GProposal.val GProposal.val_eq w a x
@[go_sem ↓ high] theorem bx_GProposal (x : GProposal) : (gBox 59 (GProposal.val x)).run Tryz.prog w = .ok (.pointer (some ⟨w.heap.size, 0, none⟩)) (w.alloc (.cells (GProposal.enc x).toArray 59)) := by
  rw [GProposal.val_eq]; exact run_gBox _ w
end
theorem lk59_0 (x : GProposal) : x.enc[0]? = some (.int .i64 x.epoch) := by
  simp [GProposal.enc, List.getElem?_append]
theorem pt59_0 (w : World) (x : GProposal) : (part 3 x.enc.toArray 0).run Tryz.prog w = .ok (.int .i64 x.epoch) w := run_part_one na3 us3 (lk59_0 x)
@[go_sem ↓ high] theorem fd59_0 (w : World) (x : GProposal) : (gField 59 (GProposal.val x) 0).run Tryz.prog w = .ok (.int .i64 x.epoch) w := by
  rw [GProposal.val_eq]
  exact run_gField w uu59 (by rw [fl59]; rfl) (pt59_0 w x)
theorem lk59_1 (x : GProposal) : x.enc[1]? = some (.int .i64 x.round) := by
  simp [GProposal.enc, List.getElem?_append]
theorem pt59_1 (w : World) (x : GProposal) : (part 3 x.enc.toArray 1).run Tryz.prog w = .ok (.int .i64 x.round) w := run_part_one na3 us3 (lk59_1 x)
@[go_sem ↓ high] theorem fd59_1 (w : World) (x : GProposal) : (gField 59 (GProposal.val x) 1).run Tryz.prog w = .ok (.int .i64 x.round) w := by
  rw [GProposal.val_eq]
  exact run_gField w uu59 (by rw [fl59]; rfl) (pt59_1 w x)
theorem lk59_2 (x : GProposal) : x.enc[2]? = some (.int .i64 x.valid) := by
  simp [GProposal.enc, List.getElem?_append]
theorem pt59_2 (w : World) (x : GProposal) : (part 3 x.enc.toArray 2).run Tryz.prog w = .ok (.int .i64 x.valid) w := run_part_one na3 us3 (lk59_2 x)
@[go_sem ↓ high] theorem fd59_2 (w : World) (x : GProposal) : (gField 59 (GProposal.val x) 2).run Tryz.prog w = .ok (.int .i64 x.valid) w := by
  rw [GProposal.val_eq]
  exact run_gField w uu59 (by rw [fl59]; rfl) (pt59_2 w x)
theorem lk59_3 (x : GProposal) : x.enc[3]? = some (.int .i64 x.replica) := by
  simp [GProposal.enc, List.getElem?_append]
theorem pt59_3 (w : World) (x : GProposal) : (part 3 x.enc.toArray 3).run Tryz.prog w = .ok (.int .i64 x.replica) w := run_part_one na3 us3 (lk59_3 x)
@[go_sem ↓ high] theorem fd59_3 (w : World) (x : GProposal) : (gField 59 (GProposal.val x) 3).run Tryz.prog w = .ok (.int .i64 x.replica) w := by
  rw [GProposal.val_eq]
  exact run_gField w uu59 (by rw [fl59]; rfl) (pt59_3 w x)
theorem ds59_4 (x : GProposal) : (x.enc.drop 4).take 5 = x.batch.enc := by
  unfold GProposal.enc
  simp [List.drop_append, List.drop_eq_nil_of_le] <;> (rw [List.take_append_of_le_length (by simp [GBatch.enc_len])]; exact List.take_of_length_le (by simp [GBatch.enc_len]))
theorem pt59_4 (w : World) (x : GProposal) : (part 57 x.enc.toArray 4).run Tryz.prog w = .ok (x.batch.val) w := by
  have h := run_part_agg (P := Tryz.prog) (w := w) (cs := x.enc) (ds := x.batch.enc) (off := 4) ag57 (by rw [GBatch.enc_len]; exact sz57) (by simp [GBatch.enc_len]) (by rw [GBatch.enc_len]; exact ds59_4 x)
  rw [h, GBatch.val_eq]; rfl
@[go_sem ↓ high] theorem fd59_4 (w : World) (x : GProposal) : (gField 59 (GProposal.val x) 4).run Tryz.prog w = .ok (x.batch.val) w := by
  rw [GProposal.val_eq]
  exact run_gField w uu59 (by rw [fl59]; rfl) (pt59_4 w x)
theorem ds59_5 (x : GProposal) : (x.enc.drop 9).take 2 = x.sig.enc := by
  unfold GProposal.enc
  simp [List.drop_append, List.drop_eq_nil_of_le, GBatch.enc_len] <;> (exact List.take_of_length_le (by simp [GSig.enc_len]))
theorem pt59_5 (w : World) (x : GProposal) : (part 39 x.enc.toArray 9).run Tryz.prog w = .ok (x.sig.val) w := by
  have h := run_part_agg (P := Tryz.prog) (w := w) (cs := x.enc) (ds := x.sig.enc) (off := 9) ag39 (by rw [GSig.enc_len]; exact sz39) (by simp [GSig.enc_len]) (by rw [GSig.enc_len]; exact ds59_5 x)
  rw [h, GSig.val_eq]; rfl
@[go_sem ↓ high] theorem fd59_5 (w : World) (x : GProposal) : (gField 59 (GProposal.val x) 5).run Tryz.prog w = .ok (x.sig.val) w := by
  rw [GProposal.val_eq]
  exact run_gField w uu59 (by rw [fl59]; rfl) (pt59_5 w x)
@[go_sem ↓ high] theorem xf_GProposal (ρ : Operand → Value) (dst : Option Tmp) (x : Operand) (i : Nat) (ty : TypeId) (pos : String) (after : Array Edge) (guard : Option (Nat × Bool)) : execOp ρ { dst, op := .field 59 x i, type := ty, pos, after, guard } = (do pure (.value (← gField 59 (ρ x) i))) := ex_field ..
theorem zr59 : zeroT Tryz.prog 59 = some (.agg (GProposal.enc default).toArray) := by kernel_rfl
@[go_sem ↓ high] theorem al_GProposal (w : World) : (gAlloc 59).run Tryz.prog w = .ok (.pointer (some ⟨w.heap.size, 0, none⟩)) (w.alloc (.cells (GProposal.enc default).toArray 59)) := run_zero_alloc zr59 w
@[go_sem] theorem pc_GProposal (w : World) (n : Nat) (x z : GProposal) (hn : n = w.heap.size) : World.putCells (w.alloc (.cells (GProposal.enc z).toArray 59)) ⟨n, 0, none⟩ (GProposal.enc x) = w.alloc (.cells (GProposal.enc x).toArray 59) := putCells_top x z hn
theorem GProposal.at_epoch {w : World} {a : Addr} {x : GProposal} (h : get? GProposal w a = some x) : w.cell? (a.add 0) = some (.int .i64 x.epoch) := (get?_iff.1 h) _ _ (lk59_0 x)
theorem GProposal.at_round {w : World} {a : Addr} {x : GProposal} (h : get? GProposal w a = some x) : w.cell? (a.add 1) = some (.int .i64 x.round) := (get?_iff.1 h) _ _ (lk59_1 x)
theorem GProposal.at_valid {w : World} {a : Addr} {x : GProposal} (h : get? GProposal w a = some x) : w.cell? (a.add 2) = some (.int .i64 x.valid) := (get?_iff.1 h) _ _ (lk59_2 x)
theorem GProposal.at_replica {w : World} {a : Addr} {x : GProposal} (h : get? GProposal w a = some x) : w.cell? (a.add 3) = some (.int .i64 x.replica) := (get?_iff.1 h) _ _ (lk59_3 x)
theorem GProposal.at_batch {w : World} {a : Addr} {x : GProposal} (h : get? GProposal w a = some x) : get? GBatch w (a.add 4) = some x.batch := by
  rw [get?_iff] at h ⊢
  refine h.sub 4 fun j v hv => ?_
  have hd := ds59_4 x
  have hj : j < 5 := by have := (List.getElem?_eq_some_iff.1 hv).1; rwa [Enc.len] at this
  show x.enc[4 + j]? = some v
  rw [← List.getElem?_drop, ← List.getElem?_take_of_lt hj, hd]; exact hv
theorem GProposal.at_sig {w : World} {a : Addr} {x : GProposal} (h : get? GProposal w a = some x) : get? GSig w (a.add 9) = some x.sig := by
  rw [get?_iff] at h ⊢
  refine h.sub 9 fun j v hv => ?_
  have hd := ds59_5 x
  have hj : j < 2 := by have := (List.getElem?_eq_some_iff.1 hv).1; rwa [Enc.len] at this
  show x.enc[9 + j]? = some v
  rw [← List.getElem?_drop, ← List.getElem?_take_of_lt hj, hd]; exact hv
@[go_sem] theorem nl59_0 (x : GProposal) : x.enc[0]? = some (.int .i64 x.epoch) := by
  have h := (GProposal.at_epoch (get?_new (w := (default : World)) 59 x))
  simp only [Addr.add_lit, Nat.zero_add, Nat.reduceAdd, World.cell?_alloc_new, List.getElem?_toArray] at h
  exact h
@[go_sem] theorem nl59_1 (x : GProposal) : x.enc[1]? = some (.int .i64 x.round) := by
  have h := (GProposal.at_round (get?_new (w := (default : World)) 59 x))
  simp only [Addr.add_lit, Nat.zero_add, Nat.reduceAdd, World.cell?_alloc_new, List.getElem?_toArray] at h
  exact h
@[go_sem] theorem nl59_2 (x : GProposal) : x.enc[2]? = some (.int .i64 x.valid) := by
  have h := (GProposal.at_valid (get?_new (w := (default : World)) 59 x))
  simp only [Addr.add_lit, Nat.zero_add, Nat.reduceAdd, World.cell?_alloc_new, List.getElem?_toArray] at h
  exact h
@[go_sem] theorem nl59_3 (x : GProposal) : x.enc[3]? = some (.int .i64 x.replica) := by
  have h := (GProposal.at_replica (get?_new (w := (default : World)) 59 x))
  simp only [Addr.add_lit, Nat.zero_add, Nat.reduceAdd, World.cell?_alloc_new, List.getElem?_toArray] at h
  exact h
@[go_sem] theorem nw59_4_GBatch (w : World) (n : Nat) (x : GProposal) (hn : n = w.heap.size) : get? GBatch (w.alloc (.cells (GProposal.enc x).toArray 59)) ⟨n, 4, none⟩ = some x.batch := by
  subst hn
  have h := (GProposal.at_batch (get?_new (w := w) 59 x))
  simp only [Addr.add_lit, Nat.zero_add, Nat.reduceAdd] at h
  exact h
@[go_sem] theorem nl59_4 (x : GProposal) : x.enc[4]? = some (.int .i64 x.batch.epoch) := by
  have h := (GBatch.at_epoch (GProposal.at_batch (get?_new (w := (default : World)) 59 x)))
  simp only [Addr.add_lit, Nat.zero_add, Nat.reduceAdd, World.cell?_alloc_new, List.getElem?_toArray] at h
  exact h
@[go_sem] theorem nl59_5 (x : GProposal) : x.enc[5]? = some (.int .u64 x.batch.time) := by
  have h := (GBatch.at_time (GProposal.at_batch (get?_new (w := (default : World)) 59 x)))
  simp only [Addr.add_lit, Nat.zero_add, Nat.reduceAdd, World.cell?_alloc_new, List.getElem?_toArray] at h
  exact h
@[go_sem] theorem nl59_6 (x : GProposal) : x.enc[6]? = some (x.batch.promises.val) := by
  have h := (GBatch.at_promises (GProposal.at_batch (get?_new (w := (default : World)) 59 x)))
  simp only [Addr.add_lit, Nat.zero_add, Nat.reduceAdd, World.cell?_alloc_new, List.getElem?_toArray] at h
  exact h
@[go_sem] theorem nl59_7 (x : GProposal) : x.enc[7]? = some (x.batch.openings.val) := by
  have h := (GBatch.at_openings (GProposal.at_batch (get?_new (w := (default : World)) 59 x)))
  simp only [Addr.add_lit, Nat.zero_add, Nat.reduceAdd, World.cell?_alloc_new, List.getElem?_toArray] at h
  exact h
@[go_sem] theorem nl59_8 (x : GProposal) : x.enc[8]? = some (x.batch.tombs.val) := by
  have h := (GBatch.at_tombs (GProposal.at_batch (get?_new (w := (default : World)) 59 x)))
  simp only [Addr.add_lit, Nat.zero_add, Nat.reduceAdd, World.cell?_alloc_new, List.getElem?_toArray] at h
  exact h
@[go_sem] theorem nw59_9_GSig (w : World) (n : Nat) (x : GProposal) (hn : n = w.heap.size) : get? GSig (w.alloc (.cells (GProposal.enc x).toArray 59)) ⟨n, 9, none⟩ = some x.sig := by
  subst hn
  have h := (GProposal.at_sig (get?_new (w := w) 59 x))
  simp only [Addr.add_lit, Nat.zero_add, Nat.reduceAdd] at h
  exact h
@[go_sem] theorem nl59_9 (x : GProposal) : x.enc[9]? = some (.int .i64 x.sig.by_) := by
  have h := (GSig.at_by_ (GProposal.at_sig (get?_new (w := (default : World)) 59 x)))
  simp only [Addr.add_lit, Nat.zero_add, Nat.reduceAdd, World.cell?_alloc_new, List.getElem?_toArray] at h
  exact h
@[go_sem] theorem nl59_10 (x : GProposal) : x.enc[10]? = some (.int .i64 x.sig.mark) := by
  have h := (GSig.at_mark (GProposal.at_sig (get?_new (w := (default : World)) 59 x)))
  simp only [Addr.add_lit, Nat.zero_add, Nat.reduceAdd, World.cell?_alloc_new, List.getElem?_toArray] at h
  exact h
@[go_sem] theorem nw59 (w : World) (n : Nat) (x : GProposal) (hn : n = w.heap.size) : get? GProposal (w.alloc (.cells (GProposal.enc x).toArray 59)) ⟨n, 0, none⟩ = some x := by
  subst hn; exact get?_new 59 x
theorem pl59 : ((Tryz.prog.fieldsOf 59).toList.mapM fun f => (Tryz.prog.info? f.type).map fun i => (f.offset, i.size)) = some [(0, 1), (1, 1), (2, 1), (3, 1), (4, 5), (9, 2)] := by kernel_rfl
theorem fs59_0 (x : GProposal) (v : Int) (rest : List (Nat × Value)) : Instr.fill (fun i => ([(0, 1), (1, 1), (2, 1), (3, 1), (4, 5), (9, 2)] : List (Nat × Nat))[i]?) x.enc.toArray ((0, (.int .i64 v)) :: rest) = Instr.fill (fun i => ([(0, 1), (1, 1), (2, 1), (3, 1), (4, 5), (9, 2)] : List (Nat × Nat))[i]?) ({ x with epoch := v } : GProposal).enc.toArray rest := by
  have h := fill_seg [(0, 1), (1, 1), (2, 1), (3, 1), (4, 5), (9, 2)] 0 0 1 rfl (([] : List Value)) ([(.int .i64 x.epoch)]) ([(.int .i64 x.round)] ++ ([(.int .i64 x.valid)] ++ ([(.int .i64 x.replica)] ++ (x.batch.enc ++ (x.sig.enc ++ (([] : List Value))))))) ([(.int .i64 v)]) (.int .i64 v) rest (rfl) (by simp [GBatch.enc_len, GSig.enc_len]) (by simp [GBatch.enc_len, GSig.enc_len]) (by simp [GBatch.enc_len, GSig.enc_len])
  have e1 : x.enc = (([] : List Value)) ++ ([(.int .i64 x.epoch)] ++ ([(.int .i64 x.round)] ++ ([(.int .i64 x.valid)] ++ ([(.int .i64 x.replica)] ++ (x.batch.enc ++ (x.sig.enc ++ (([] : List Value)))))))) := by simp only [GProposal.enc, List.nil_append, List.append_assoc, List.append_nil]
  have e2 : ({ x with epoch := v } : GProposal).enc = (([] : List Value)) ++ ([(.int .i64 v)] ++ ([(.int .i64 x.round)] ++ ([(.int .i64 x.valid)] ++ ([(.int .i64 x.replica)] ++ (x.batch.enc ++ (x.sig.enc ++ (([] : List Value)))))))) := by simp only [GProposal.enc, List.nil_append, List.append_assoc, List.append_nil]
  rw [e1, e2]; exact h
theorem fs59_1 (x : GProposal) (v : Int) (rest : List (Nat × Value)) : Instr.fill (fun i => ([(0, 1), (1, 1), (2, 1), (3, 1), (4, 5), (9, 2)] : List (Nat × Nat))[i]?) x.enc.toArray ((1, (.int .i64 v)) :: rest) = Instr.fill (fun i => ([(0, 1), (1, 1), (2, 1), (3, 1), (4, 5), (9, 2)] : List (Nat × Nat))[i]?) ({ x with round := v } : GProposal).enc.toArray rest := by
  have h := fill_seg [(0, 1), (1, 1), (2, 1), (3, 1), (4, 5), (9, 2)] 1 1 1 rfl (([] : List Value) ++ ([(.int .i64 x.epoch)])) ([(.int .i64 x.round)]) ([(.int .i64 x.valid)] ++ ([(.int .i64 x.replica)] ++ (x.batch.enc ++ (x.sig.enc ++ (([] : List Value)))))) ([(.int .i64 v)]) (.int .i64 v) rest (rfl) (by simp [GBatch.enc_len, GSig.enc_len]) (by simp [GBatch.enc_len, GSig.enc_len]) (by simp [GBatch.enc_len, GSig.enc_len])
  have e1 : x.enc = (([] : List Value) ++ ([(.int .i64 x.epoch)])) ++ ([(.int .i64 x.round)] ++ ([(.int .i64 x.valid)] ++ ([(.int .i64 x.replica)] ++ (x.batch.enc ++ (x.sig.enc ++ (([] : List Value))))))) := by simp only [GProposal.enc, List.nil_append, List.append_assoc, List.append_nil]
  have e2 : ({ x with round := v } : GProposal).enc = (([] : List Value) ++ ([(.int .i64 x.epoch)])) ++ ([(.int .i64 v)] ++ ([(.int .i64 x.valid)] ++ ([(.int .i64 x.replica)] ++ (x.batch.enc ++ (x.sig.enc ++ (([] : List Value))))))) := by simp only [GProposal.enc, List.nil_append, List.append_assoc, List.append_nil]
  rw [e1, e2]; exact h
theorem fs59_2 (x : GProposal) (v : Int) (rest : List (Nat × Value)) : Instr.fill (fun i => ([(0, 1), (1, 1), (2, 1), (3, 1), (4, 5), (9, 2)] : List (Nat × Nat))[i]?) x.enc.toArray ((2, (.int .i64 v)) :: rest) = Instr.fill (fun i => ([(0, 1), (1, 1), (2, 1), (3, 1), (4, 5), (9, 2)] : List (Nat × Nat))[i]?) ({ x with valid := v } : GProposal).enc.toArray rest := by
  have h := fill_seg [(0, 1), (1, 1), (2, 1), (3, 1), (4, 5), (9, 2)] 2 2 1 rfl (([] : List Value) ++ ([(.int .i64 x.epoch)] ++ ([(.int .i64 x.round)]))) ([(.int .i64 x.valid)]) ([(.int .i64 x.replica)] ++ (x.batch.enc ++ (x.sig.enc ++ (([] : List Value))))) ([(.int .i64 v)]) (.int .i64 v) rest (rfl) (by simp [GBatch.enc_len, GSig.enc_len]) (by simp [GBatch.enc_len, GSig.enc_len]) (by simp [GBatch.enc_len, GSig.enc_len])
  have e1 : x.enc = (([] : List Value) ++ ([(.int .i64 x.epoch)] ++ ([(.int .i64 x.round)]))) ++ ([(.int .i64 x.valid)] ++ ([(.int .i64 x.replica)] ++ (x.batch.enc ++ (x.sig.enc ++ (([] : List Value)))))) := by simp only [GProposal.enc, List.nil_append, List.append_assoc, List.append_nil]
  have e2 : ({ x with valid := v } : GProposal).enc = (([] : List Value) ++ ([(.int .i64 x.epoch)] ++ ([(.int .i64 x.round)]))) ++ ([(.int .i64 v)] ++ ([(.int .i64 x.replica)] ++ (x.batch.enc ++ (x.sig.enc ++ (([] : List Value)))))) := by simp only [GProposal.enc, List.nil_append, List.append_assoc, List.append_nil]
  rw [e1, e2]; exact h
theorem fs59_3 (x : GProposal) (v : Int) (rest : List (Nat × Value)) : Instr.fill (fun i => ([(0, 1), (1, 1), (2, 1), (3, 1), (4, 5), (9, 2)] : List (Nat × Nat))[i]?) x.enc.toArray ((3, (.int .i64 v)) :: rest) = Instr.fill (fun i => ([(0, 1), (1, 1), (2, 1), (3, 1), (4, 5), (9, 2)] : List (Nat × Nat))[i]?) ({ x with replica := v } : GProposal).enc.toArray rest := by
  have h := fill_seg [(0, 1), (1, 1), (2, 1), (3, 1), (4, 5), (9, 2)] 3 3 1 rfl (([] : List Value) ++ ([(.int .i64 x.epoch)] ++ ([(.int .i64 x.round)] ++ ([(.int .i64 x.valid)])))) ([(.int .i64 x.replica)]) (x.batch.enc ++ (x.sig.enc ++ (([] : List Value)))) ([(.int .i64 v)]) (.int .i64 v) rest (rfl) (by simp [GBatch.enc_len, GSig.enc_len]) (by simp [GBatch.enc_len, GSig.enc_len]) (by simp [GBatch.enc_len, GSig.enc_len])
  have e1 : x.enc = (([] : List Value) ++ ([(.int .i64 x.epoch)] ++ ([(.int .i64 x.round)] ++ ([(.int .i64 x.valid)])))) ++ ([(.int .i64 x.replica)] ++ (x.batch.enc ++ (x.sig.enc ++ (([] : List Value))))) := by simp only [GProposal.enc, List.nil_append, List.append_assoc, List.append_nil]
  have e2 : ({ x with replica := v } : GProposal).enc = (([] : List Value) ++ ([(.int .i64 x.epoch)] ++ ([(.int .i64 x.round)] ++ ([(.int .i64 x.valid)])))) ++ ([(.int .i64 v)] ++ (x.batch.enc ++ (x.sig.enc ++ (([] : List Value))))) := by simp only [GProposal.enc, List.nil_append, List.append_assoc, List.append_nil]
  rw [e1, e2]; exact h
theorem fs59_4 (x : GProposal) (v : GBatch) (rest : List (Nat × Value)) : Instr.fill (fun i => ([(0, 1), (1, 1), (2, 1), (3, 1), (4, 5), (9, 2)] : List (Nat × Nat))[i]?) x.enc.toArray ((4, (v.val)) :: rest) = Instr.fill (fun i => ([(0, 1), (1, 1), (2, 1), (3, 1), (4, 5), (9, 2)] : List (Nat × Nat))[i]?) ({ x with batch := v } : GProposal).enc.toArray rest := by
  have h := fill_seg [(0, 1), (1, 1), (2, 1), (3, 1), (4, 5), (9, 2)] 4 4 5 rfl (([] : List Value) ++ ([(.int .i64 x.epoch)] ++ ([(.int .i64 x.round)] ++ ([(.int .i64 x.valid)] ++ ([(.int .i64 x.replica)]))))) (x.batch.enc) (x.sig.enc ++ (([] : List Value))) (v.enc) (v.val) rest (by rw [GBatch.val_eq]; rfl) (by simp [GBatch.enc_len, GSig.enc_len]) (by simp [GBatch.enc_len, GSig.enc_len]) (by simp [GBatch.enc_len, GSig.enc_len])
  have e1 : x.enc = (([] : List Value) ++ ([(.int .i64 x.epoch)] ++ ([(.int .i64 x.round)] ++ ([(.int .i64 x.valid)] ++ ([(.int .i64 x.replica)]))))) ++ (x.batch.enc ++ (x.sig.enc ++ (([] : List Value)))) := by simp only [GProposal.enc, List.nil_append, List.append_assoc, List.append_nil]
  have e2 : ({ x with batch := v } : GProposal).enc = (([] : List Value) ++ ([(.int .i64 x.epoch)] ++ ([(.int .i64 x.round)] ++ ([(.int .i64 x.valid)] ++ ([(.int .i64 x.replica)]))))) ++ (v.enc ++ (x.sig.enc ++ (([] : List Value)))) := by simp only [GProposal.enc, List.nil_append, List.append_assoc, List.append_nil]
  rw [e1, e2]; exact h
@[go_sem ↓ high] theorem xd_GProposal (ρ : Operand → Value) (dst : Option Tmp) (ps : Array (Nat × Operand)) (ty : TypeId) (pos : String) (after : Array Edge) (guard : Option (Nat × Bool)) : execOp ρ { dst, op := .build 59 ps, type := ty, pos, after, guard } = (do pure (.value (← gBuild 59 (ps.map fun (i, x) => (i, ρ x))))) := ex_build ..
@[go_sem ↓ high] theorem bd59_0 (w : World) (v0 : Int) (v1 : Int) (v2 : Int) (v3 : Int) (v4 : GBatch) : (gBuild 59 #[(0, (.int .i64 v0)), (1, (.int .i64 v1)), (2, (.int .i64 v2)), (3, (.int .i64 v3)), (4, (v4.val))]).run Tryz.prog w = .ok (GProposal.val ⟨v0, v1, v2, v3, v4, default⟩) w := by
  rw [GProposal.val_eq]
  refine run_gBuild_of uu59 zr59 pl59 ?_ w
  show Instr.fill _ (GProposal.enc default).toArray [(0, (.int .i64 v0)), (1, (.int .i64 v1)), (2, (.int .i64 v2)), (3, (.int .i64 v3)), (4, (v4.val))] = _
  rw [fs59_0, fs59_1, fs59_2, fs59_3, fs59_4]; rfl

/-! ### gavel/api.Decided -/
structure GDecided where
  epoch : Int
  round : Int
  batch : GBatch
  votes : Hdr
deriving DecidableEq
instance : Inhabited GDecided := ⟨⟨0, 0, default, default⟩⟩
def GDecided.enc (x : GDecided) : List Value := [(.int .i64 x.epoch)] ++ ([(.int .i64 x.round)] ++ (x.batch.enc ++ ([(x.votes.val)])))
theorem GDecided.enc_len (x : GDecided) : x.enc.length = 8 := by simp [GDecided.enc, GBatch.enc_len]
theorem GDecided.enc_one (x : GDecided) : ∀ u ∈ x.enc, u.oneCell' = true := by
  intro u hu
  simp only [GDecided.enc, List.mem_append, List.mem_singleton] at hu
  rcases hu with hu | hu | hu | hu
  · subst hu; rfl
  · subst hu; rfl
  · exact Enc.one (α := GBatch) _ _ hu
  · subst hu; rfl
theorem GDecided.enc_inj (x y : GDecided) (h : x.enc = y.enc) : x = y := by
  obtain ⟨a0, a1, a2, a3⟩ := x
  obtain ⟨b0, b1, b2, b3⟩ := y
  simp only [GDecided.enc] at h
  obtain ⟨p0, q0⟩ := List.append_inj h (rfl)
  have e0 : a0 = b0 := by have := List.head_eq_of_cons_eq p0; injection this
  obtain ⟨p1, q1⟩ := List.append_inj q0 (rfl)
  have e1 : a1 = b1 := by have := List.head_eq_of_cons_eq p1; injection this
  obtain ⟨p2, q2⟩ := List.append_inj q1 (by simp [GBatch.enc_len])
  have e2 := Enc.inj (α := GBatch) _ _ p2
  have e3 : a3 = b3 := Enc.inj (α := Hdr) _ _ q2
  rw [e0, e1, e2, e3]
instance : Enc GDecided where
  n := 8
  enc := GDecided.enc
  pos := by omega
  len := GDecided.enc_len
  one := GDecided.enc_one
  inj := GDecided.enc_inj
@[go_sem] theorem GDecided.n_eq : Enc.n GDecided = 8 := rfl
@[irreducible] def GDecided.val (x : GDecided) : Value := .agg x.enc.toArray
theorem GDecided.val_eq (x : GDecided) : GDecided.val x = .agg (Enc.enc x).toArray := by unfold GDecided.val; rfl
theorem GDecided.ext_all (x y : GDecided) : x = y ↔ x.epoch = y.epoch ∧ x.round = y.round ∧ x.batch = y.batch ∧ x.votes = y.votes := by
  constructor
  · intro h; cases h; simp
  · intro h; cases x; cases y; simp_all
theorem uu71 : Tryz.prog.underlying 71 = some (.struct (Tryz.prog.fieldsOf 71)) := by kernel_rfl
theorem st71 : Tryz.prog.stoodInHeld 71 = false := by kernel_rfl
theorem fl71 : fieldTO Tryz.prog 71 = [(3, 0), (3, 1), (57, 2), (69, 7)] := by kernel_rfl
theorem nb71 : noBlank Tryz.prog 71 = true := by kernel_rfl
@[go_sem ↓ high] theorem xl_GDecided (ρ : Operand → Value) (dst : Option Tmp) (x : Operand) (ty : TypeId) (pos : String) (after : Array Edge) (guard : Option (Nat × Bool)) : execOp ρ { dst, op := .load 71 x, type := ty, pos, after, guard } = (do pure (.value (← gLoad 71 (ρ x)))) := ex_load ..
@[go_sem ↓ high] theorem xs_GDecided (ρ : Operand → Value) (dst : Option Tmp) (x y : Operand) (ty : TypeId) (pos : String) (after : Array Edge) (guard : Option (Nat × Bool)) : execOp ρ { dst, op := .store 71 x y, type := ty, pos, after, guard } = (do gStore 71 (ρ x) (ρ y); pure .skip) := ex_store ..
@[go_sem ↓ high] theorem xb_GDecided (ρ : Operand → Value) (dst : Option Tmp) (x : Operand) (ty : TypeId) (pos : String) (after : Array Edge) (guard : Option (Nat × Bool)) : execOp ρ { dst, op := .box 71 x, type := ty, pos, after, guard } = (do pure (.value (← gBox 71 (ρ x)))) := ex_box ..
@[go_sem ↓ high] theorem xa_GDecided (ρ : Operand → Value) (dst : Option Tmp) (ty : TypeId) (pos : String) (after : Array Edge) (guard : Option (Nat × Bool)) : execOp ρ { dst, op := .alloc 71, type := ty, pos, after, guard } = (do pure (.value (← gAlloc 71))) := ex_alloc ..
theorem ag71 : aggT Tryz.prog 71 = true := by kernel_rfl
theorem sz71 : sizeT Tryz.prog 71 = 8 := by kernel_rfl
section
variable (w : World)
@[go_sem ↓ high] theorem ld_GDecided (a : Addr) : (gLoad 71 (.pointer (some a))).run Tryz.prog w = ofOpt ((get? GDecided w a).map GDecided.val) w (noLoad Tryz.prog 71 a w) := by
  unfold gLoad; exact run_loadAt_opt ag71 sz71 GDecided.val GDecided.val_eq
@[go_sem ↓ high] theorem st_GDecided (a : Addr) (x : GDecided) : (gStore 71 (.pointer (some a)) (GDecided.val x)).run Tryz.prog w = okU' ((get? GDecided w a).isSome && blkFree w a.block) (World.putCells w a (GDecided.enc x)) (noStore Tryz.prog 71 (.pointer (some a)) (GDecided.val x) w) := run_gStore_any sz71 GDecided.val GDecided.val_eq w a x
@[go_sem ↓ high] theorem bx_GDecided (x : GDecided) : (gBox 71 (GDecided.val x)).run Tryz.prog w = .ok (.pointer (some ⟨w.heap.size, 0, none⟩)) (w.alloc (.cells (GDecided.enc x).toArray 71)) := by
  rw [GDecided.val_eq]; exact run_gBox _ w
end
theorem lk71_0 (x : GDecided) : x.enc[0]? = some (.int .i64 x.epoch) := by
  simp [GDecided.enc, List.getElem?_append]
theorem pt71_0 (w : World) (x : GDecided) : (part 3 x.enc.toArray 0).run Tryz.prog w = .ok (.int .i64 x.epoch) w := run_part_one na3 us3 (lk71_0 x)
@[go_sem ↓ high] theorem fd71_0 (w : World) (x : GDecided) : (gField 71 (GDecided.val x) 0).run Tryz.prog w = .ok (.int .i64 x.epoch) w := by
  rw [GDecided.val_eq]
  exact run_gField w uu71 (by rw [fl71]; rfl) (pt71_0 w x)
theorem lk71_1 (x : GDecided) : x.enc[1]? = some (.int .i64 x.round) := by
  simp [GDecided.enc, List.getElem?_append]
theorem pt71_1 (w : World) (x : GDecided) : (part 3 x.enc.toArray 1).run Tryz.prog w = .ok (.int .i64 x.round) w := run_part_one na3 us3 (lk71_1 x)
@[go_sem ↓ high] theorem fd71_1 (w : World) (x : GDecided) : (gField 71 (GDecided.val x) 1).run Tryz.prog w = .ok (.int .i64 x.round) w := by
  rw [GDecided.val_eq]
  exact run_gField w uu71 (by rw [fl71]; rfl) (pt71_1 w x)
theorem ds71_2 (x : GDecided) : (x.enc.drop 2).take 5 = x.batch.enc := by
  unfold GDecided.enc
  simp [List.drop_append, List.drop_eq_nil_of_le] <;> (rw [List.take_append_of_le_length (by simp [GBatch.enc_len])]; exact List.take_of_length_le (by simp [GBatch.enc_len]))
theorem pt71_2 (w : World) (x : GDecided) : (part 57 x.enc.toArray 2).run Tryz.prog w = .ok (x.batch.val) w := by
  have h := run_part_agg (P := Tryz.prog) (w := w) (cs := x.enc) (ds := x.batch.enc) (off := 2) ag57 (by rw [GBatch.enc_len]; exact sz57) (by simp [GBatch.enc_len]) (by rw [GBatch.enc_len]; exact ds71_2 x)
  rw [h, GBatch.val_eq]; rfl
@[go_sem ↓ high] theorem fd71_2 (w : World) (x : GDecided) : (gField 71 (GDecided.val x) 2).run Tryz.prog w = .ok (x.batch.val) w := by
  rw [GDecided.val_eq]
  exact run_gField w uu71 (by rw [fl71]; rfl) (pt71_2 w x)
theorem lk71_3 (x : GDecided) : x.enc[7]? = some (x.votes.val) := by
  simp [GDecided.enc, List.getElem?_append, GBatch.enc_len]
theorem pt71_3 (w : World) (x : GDecided) : (part 69 x.enc.toArray 7).run Tryz.prog w = .ok (x.votes.val) w := run_part_one na69 us69 (lk71_3 x)
@[go_sem ↓ high] theorem fd71_3 (w : World) (x : GDecided) : (gField 71 (GDecided.val x) 3).run Tryz.prog w = .ok (x.votes.val) w := by
  rw [GDecided.val_eq]
  exact run_gField w uu71 (by rw [fl71]; rfl) (pt71_3 w x)
@[go_sem ↓ high] theorem xf_GDecided (ρ : Operand → Value) (dst : Option Tmp) (x : Operand) (i : Nat) (ty : TypeId) (pos : String) (after : Array Edge) (guard : Option (Nat × Bool)) : execOp ρ { dst, op := .field 71 x i, type := ty, pos, after, guard } = (do pure (.value (← gField 71 (ρ x) i))) := ex_field ..
theorem zr71 : zeroT Tryz.prog 71 = some (.agg (GDecided.enc default).toArray) := by kernel_rfl
@[go_sem ↓ high] theorem al_GDecided (w : World) : (gAlloc 71).run Tryz.prog w = .ok (.pointer (some ⟨w.heap.size, 0, none⟩)) (w.alloc (.cells (GDecided.enc default).toArray 71)) := run_zero_alloc zr71 w
@[go_sem] theorem pc_GDecided (w : World) (n : Nat) (x z : GDecided) (hn : n = w.heap.size) : World.putCells (w.alloc (.cells (GDecided.enc z).toArray 71)) ⟨n, 0, none⟩ (GDecided.enc x) = w.alloc (.cells (GDecided.enc x).toArray 71) := putCells_top x z hn
theorem GDecided.at_epoch {w : World} {a : Addr} {x : GDecided} (h : get? GDecided w a = some x) : w.cell? (a.add 0) = some (.int .i64 x.epoch) := (get?_iff.1 h) _ _ (lk71_0 x)
theorem GDecided.at_round {w : World} {a : Addr} {x : GDecided} (h : get? GDecided w a = some x) : w.cell? (a.add 1) = some (.int .i64 x.round) := (get?_iff.1 h) _ _ (lk71_1 x)
theorem GDecided.at_batch {w : World} {a : Addr} {x : GDecided} (h : get? GDecided w a = some x) : get? GBatch w (a.add 2) = some x.batch := by
  rw [get?_iff] at h ⊢
  refine h.sub 2 fun j v hv => ?_
  have hd := ds71_2 x
  have hj : j < 5 := by have := (List.getElem?_eq_some_iff.1 hv).1; rwa [Enc.len] at this
  show x.enc[2 + j]? = some v
  rw [← List.getElem?_drop, ← List.getElem?_take_of_lt hj, hd]; exact hv
theorem GDecided.at_votes {w : World} {a : Addr} {x : GDecided} (h : get? GDecided w a = some x) : w.cell? (a.add 7) = some (x.votes.val) := (get?_iff.1 h) _ _ (lk71_3 x)
@[go_sem] theorem nl71_0 (x : GDecided) : x.enc[0]? = some (.int .i64 x.epoch) := by
  have h := (GDecided.at_epoch (get?_new (w := (default : World)) 71 x))
  simp only [Addr.add_lit, Nat.zero_add, Nat.reduceAdd, World.cell?_alloc_new, List.getElem?_toArray] at h
  exact h
@[go_sem] theorem nl71_1 (x : GDecided) : x.enc[1]? = some (.int .i64 x.round) := by
  have h := (GDecided.at_round (get?_new (w := (default : World)) 71 x))
  simp only [Addr.add_lit, Nat.zero_add, Nat.reduceAdd, World.cell?_alloc_new, List.getElem?_toArray] at h
  exact h
@[go_sem] theorem nw71_2_GBatch (w : World) (n : Nat) (x : GDecided) (hn : n = w.heap.size) : get? GBatch (w.alloc (.cells (GDecided.enc x).toArray 71)) ⟨n, 2, none⟩ = some x.batch := by
  subst hn
  have h := (GDecided.at_batch (get?_new (w := w) 71 x))
  simp only [Addr.add_lit, Nat.zero_add, Nat.reduceAdd] at h
  exact h
@[go_sem] theorem nl71_2 (x : GDecided) : x.enc[2]? = some (.int .i64 x.batch.epoch) := by
  have h := (GBatch.at_epoch (GDecided.at_batch (get?_new (w := (default : World)) 71 x)))
  simp only [Addr.add_lit, Nat.zero_add, Nat.reduceAdd, World.cell?_alloc_new, List.getElem?_toArray] at h
  exact h
@[go_sem] theorem nl71_3 (x : GDecided) : x.enc[3]? = some (.int .u64 x.batch.time) := by
  have h := (GBatch.at_time (GDecided.at_batch (get?_new (w := (default : World)) 71 x)))
  simp only [Addr.add_lit, Nat.zero_add, Nat.reduceAdd, World.cell?_alloc_new, List.getElem?_toArray] at h
  exact h
@[go_sem] theorem nl71_4 (x : GDecided) : x.enc[4]? = some (x.batch.promises.val) := by
  have h := (GBatch.at_promises (GDecided.at_batch (get?_new (w := (default : World)) 71 x)))
  simp only [Addr.add_lit, Nat.zero_add, Nat.reduceAdd, World.cell?_alloc_new, List.getElem?_toArray] at h
  exact h
@[go_sem] theorem nl71_5 (x : GDecided) : x.enc[5]? = some (x.batch.openings.val) := by
  have h := (GBatch.at_openings (GDecided.at_batch (get?_new (w := (default : World)) 71 x)))
  simp only [Addr.add_lit, Nat.zero_add, Nat.reduceAdd, World.cell?_alloc_new, List.getElem?_toArray] at h
  exact h
@[go_sem] theorem nl71_6 (x : GDecided) : x.enc[6]? = some (x.batch.tombs.val) := by
  have h := (GBatch.at_tombs (GDecided.at_batch (get?_new (w := (default : World)) 71 x)))
  simp only [Addr.add_lit, Nat.zero_add, Nat.reduceAdd, World.cell?_alloc_new, List.getElem?_toArray] at h
  exact h
@[go_sem] theorem nl71_7 (x : GDecided) : x.enc[7]? = some (x.votes.val) := by
  have h := (GDecided.at_votes (get?_new (w := (default : World)) 71 x))
  simp only [Addr.add_lit, Nat.zero_add, Nat.reduceAdd, World.cell?_alloc_new, List.getElem?_toArray] at h
  exact h
@[go_sem] theorem nw71 (w : World) (n : Nat) (x : GDecided) (hn : n = w.heap.size) : get? GDecided (w.alloc (.cells (GDecided.enc x).toArray 71)) ⟨n, 0, none⟩ = some x := by
  subst hn; exact get?_new 71 x
theorem pl71 : ((Tryz.prog.fieldsOf 71).toList.mapM fun f => (Tryz.prog.info? f.type).map fun i => (f.offset, i.size)) = some [(0, 1), (1, 1), (2, 5), (7, 1)] := by kernel_rfl
theorem fs71_0 (x : GDecided) (v : Int) (rest : List (Nat × Value)) : Instr.fill (fun i => ([(0, 1), (1, 1), (2, 5), (7, 1)] : List (Nat × Nat))[i]?) x.enc.toArray ((0, (.int .i64 v)) :: rest) = Instr.fill (fun i => ([(0, 1), (1, 1), (2, 5), (7, 1)] : List (Nat × Nat))[i]?) ({ x with epoch := v } : GDecided).enc.toArray rest := by
  have h := fill_seg [(0, 1), (1, 1), (2, 5), (7, 1)] 0 0 1 rfl (([] : List Value)) ([(.int .i64 x.epoch)]) ([(.int .i64 x.round)] ++ (x.batch.enc ++ ([(x.votes.val)] ++ (([] : List Value))))) ([(.int .i64 v)]) (.int .i64 v) rest (rfl) (by simp [GBatch.enc_len]) (by simp [GBatch.enc_len]) (by simp [GBatch.enc_len])
  have e1 : x.enc = (([] : List Value)) ++ ([(.int .i64 x.epoch)] ++ ([(.int .i64 x.round)] ++ (x.batch.enc ++ ([(x.votes.val)] ++ (([] : List Value)))))) := by simp only [GDecided.enc, List.nil_append, List.append_assoc, List.append_nil]
  have e2 : ({ x with epoch := v } : GDecided).enc = (([] : List Value)) ++ ([(.int .i64 v)] ++ ([(.int .i64 x.round)] ++ (x.batch.enc ++ ([(x.votes.val)] ++ (([] : List Value)))))) := by simp only [GDecided.enc, List.nil_append, List.append_assoc, List.append_nil]
  rw [e1, e2]; exact h
theorem fs71_1 (x : GDecided) (v : Int) (rest : List (Nat × Value)) : Instr.fill (fun i => ([(0, 1), (1, 1), (2, 5), (7, 1)] : List (Nat × Nat))[i]?) x.enc.toArray ((1, (.int .i64 v)) :: rest) = Instr.fill (fun i => ([(0, 1), (1, 1), (2, 5), (7, 1)] : List (Nat × Nat))[i]?) ({ x with round := v } : GDecided).enc.toArray rest := by
  have h := fill_seg [(0, 1), (1, 1), (2, 5), (7, 1)] 1 1 1 rfl (([] : List Value) ++ ([(.int .i64 x.epoch)])) ([(.int .i64 x.round)]) (x.batch.enc ++ ([(x.votes.val)] ++ (([] : List Value)))) ([(.int .i64 v)]) (.int .i64 v) rest (rfl) (by simp [GBatch.enc_len]) (by simp [GBatch.enc_len]) (by simp [GBatch.enc_len])
  have e1 : x.enc = (([] : List Value) ++ ([(.int .i64 x.epoch)])) ++ ([(.int .i64 x.round)] ++ (x.batch.enc ++ ([(x.votes.val)] ++ (([] : List Value))))) := by simp only [GDecided.enc, List.nil_append, List.append_assoc, List.append_nil]
  have e2 : ({ x with round := v } : GDecided).enc = (([] : List Value) ++ ([(.int .i64 x.epoch)])) ++ ([(.int .i64 v)] ++ (x.batch.enc ++ ([(x.votes.val)] ++ (([] : List Value))))) := by simp only [GDecided.enc, List.nil_append, List.append_assoc, List.append_nil]
  rw [e1, e2]; exact h
theorem fs71_2 (x : GDecided) (v : GBatch) (rest : List (Nat × Value)) : Instr.fill (fun i => ([(0, 1), (1, 1), (2, 5), (7, 1)] : List (Nat × Nat))[i]?) x.enc.toArray ((2, (v.val)) :: rest) = Instr.fill (fun i => ([(0, 1), (1, 1), (2, 5), (7, 1)] : List (Nat × Nat))[i]?) ({ x with batch := v } : GDecided).enc.toArray rest := by
  have h := fill_seg [(0, 1), (1, 1), (2, 5), (7, 1)] 2 2 5 rfl (([] : List Value) ++ ([(.int .i64 x.epoch)] ++ ([(.int .i64 x.round)]))) (x.batch.enc) ([(x.votes.val)] ++ (([] : List Value))) (v.enc) (v.val) rest (by rw [GBatch.val_eq]; rfl) (by simp [GBatch.enc_len]) (by simp [GBatch.enc_len]) (by simp [GBatch.enc_len])
  have e1 : x.enc = (([] : List Value) ++ ([(.int .i64 x.epoch)] ++ ([(.int .i64 x.round)]))) ++ (x.batch.enc ++ ([(x.votes.val)] ++ (([] : List Value)))) := by simp only [GDecided.enc, List.nil_append, List.append_assoc, List.append_nil]
  have e2 : ({ x with batch := v } : GDecided).enc = (([] : List Value) ++ ([(.int .i64 x.epoch)] ++ ([(.int .i64 x.round)]))) ++ (v.enc ++ ([(x.votes.val)] ++ (([] : List Value)))) := by simp only [GDecided.enc, List.nil_append, List.append_assoc, List.append_nil]
  rw [e1, e2]; exact h
@[go_sem ↓ high] theorem xd_GDecided (ρ : Operand → Value) (dst : Option Tmp) (ps : Array (Nat × Operand)) (ty : TypeId) (pos : String) (after : Array Edge) (guard : Option (Nat × Bool)) : execOp ρ { dst, op := .build 71 ps, type := ty, pos, after, guard } = (do pure (.value (← gBuild 71 (ps.map fun (i, x) => (i, ρ x))))) := ex_build ..
@[go_sem ↓ high] theorem bd71_0 (w : World) (v0 : Int) (v1 : Int) (v2 : GBatch) : (gBuild 71 #[(0, (.int .i64 v0)), (1, (.int .i64 v1)), (2, (v2.val))]).run Tryz.prog w = .ok (GDecided.val ⟨v0, v1, v2, default⟩) w := by
  rw [GDecided.val_eq]
  refine run_gBuild_of uu71 zr71 pl71 ?_ w
  show Instr.fill _ (GDecided.enc default).toArray [(0, (.int .i64 v0)), (1, (.int .i64 v1)), (2, (v2.val))] = _
  rw [fs71_0, fs71_1, fs71_2]; rfl

/-! ### gavel/api.Msg -/
structure GMsg where
  kind : Int
  from_ : Int
  to : Int
  commit : GCommit
  stamp : GStamp
  cert : GCert
  ack : GAck
  epoch : Int
  round : Int
  time : Int
  promise : GPromise
  proposal : GProposal
  vote : GVote
  index : Int
  entry : GEntry
  opening : GOpening
  deny : GDeny
  reply : ByteArray
  decided : GDecided
deriving DecidableEq
instance : Inhabited GMsg := ⟨⟨0, 0, 0, default, default, default, default, 0, 0, 0, default, default, default, 0, default, default, default, ByteArray.empty, default⟩⟩
def GMsg.enc (x : GMsg) : List Value := [(.int .i64 x.kind)] ++ ([(.int .i64 x.from_)] ++ ([(.int .i64 x.to)] ++ (x.commit.enc ++ (x.stamp.enc ++ (x.cert.enc ++ (x.ack.enc ++ ([(.int .i64 x.epoch)] ++ ([(.int .i64 x.round)] ++ ([(.int .u64 x.time)] ++ (x.promise.enc ++ (x.proposal.enc ++ (x.vote.enc ++ ([(.int .i64 x.index)] ++ (x.entry.enc ++ (x.opening.enc ++ (x.deny.enc ++ ([(.string x.reply)] ++ (x.decided.enc))))))))))))))))))
theorem GMsg.enc_len (x : GMsg) : x.enc.length = 295 := by simp [GMsg.enc, GAck.enc_len, GCert.enc_len, GCommit.enc_len, GDecided.enc_len, GDeny.enc_len, GEntry.enc_len, GOpening.enc_len, GPromise.enc_len, GProposal.enc_len, GStamp.enc_len, GVote.enc_len]
theorem GMsg.enc_one (x : GMsg) : ∀ u ∈ x.enc, u.oneCell' = true := by
  intro u hu
  simp only [GMsg.enc, List.mem_append, List.mem_singleton] at hu
  rcases hu with hu | hu | hu | hu | hu | hu | hu | hu | hu | hu | hu | hu | hu | hu | hu | hu | hu | hu | hu
  · subst hu; rfl
  · subst hu; rfl
  · subst hu; rfl
  · exact Enc.one (α := GCommit) _ _ hu
  · exact Enc.one (α := GStamp) _ _ hu
  · exact Enc.one (α := GCert) _ _ hu
  · exact Enc.one (α := GAck) _ _ hu
  · subst hu; rfl
  · subst hu; rfl
  · subst hu; rfl
  · exact Enc.one (α := GPromise) _ _ hu
  · exact Enc.one (α := GProposal) _ _ hu
  · exact Enc.one (α := GVote) _ _ hu
  · subst hu; rfl
  · exact Enc.one (α := GEntry) _ _ hu
  · exact Enc.one (α := GOpening) _ _ hu
  · exact Enc.one (α := GDeny) _ _ hu
  · subst hu; rfl
  · exact Enc.one (α := GDecided) _ _ hu
theorem GMsg.enc_inj (x y : GMsg) (h : x.enc = y.enc) : x = y := by
  obtain ⟨a0, a1, a2, a3, a4, a5, a6, a7, a8, a9, a10, a11, a12, a13, a14, a15, a16, a17, a18⟩ := x
  obtain ⟨b0, b1, b2, b3, b4, b5, b6, b7, b8, b9, b10, b11, b12, b13, b14, b15, b16, b17, b18⟩ := y
  simp only [GMsg.enc] at h
  obtain ⟨p0, q0⟩ := List.append_inj h (rfl)
  have e0 : a0 = b0 := by have := List.head_eq_of_cons_eq p0; injection this
  obtain ⟨p1, q1⟩ := List.append_inj q0 (rfl)
  have e1 : a1 = b1 := by have := List.head_eq_of_cons_eq p1; injection this
  obtain ⟨p2, q2⟩ := List.append_inj q1 (rfl)
  have e2 : a2 = b2 := by have := List.head_eq_of_cons_eq p2; injection this
  obtain ⟨p3, q3⟩ := List.append_inj q2 (by simp [GCommit.enc_len])
  have e3 := Enc.inj (α := GCommit) _ _ p3
  obtain ⟨p4, q4⟩ := List.append_inj q3 (by simp [GStamp.enc_len])
  have e4 := Enc.inj (α := GStamp) _ _ p4
  obtain ⟨p5, q5⟩ := List.append_inj q4 (by simp [GCert.enc_len])
  have e5 := Enc.inj (α := GCert) _ _ p5
  obtain ⟨p6, q6⟩ := List.append_inj q5 (by simp [GAck.enc_len])
  have e6 := Enc.inj (α := GAck) _ _ p6
  obtain ⟨p7, q7⟩ := List.append_inj q6 (rfl)
  have e7 : a7 = b7 := by have := List.head_eq_of_cons_eq p7; injection this
  obtain ⟨p8, q8⟩ := List.append_inj q7 (rfl)
  have e8 : a8 = b8 := by have := List.head_eq_of_cons_eq p8; injection this
  obtain ⟨p9, q9⟩ := List.append_inj q8 (rfl)
  have e9 : a9 = b9 := by have := List.head_eq_of_cons_eq p9; injection this
  obtain ⟨p10, q10⟩ := List.append_inj q9 (by simp [GPromise.enc_len])
  have e10 := Enc.inj (α := GPromise) _ _ p10
  obtain ⟨p11, q11⟩ := List.append_inj q10 (by simp [GProposal.enc_len])
  have e11 := Enc.inj (α := GProposal) _ _ p11
  obtain ⟨p12, q12⟩ := List.append_inj q11 (by simp [GVote.enc_len])
  have e12 := Enc.inj (α := GVote) _ _ p12
  obtain ⟨p13, q13⟩ := List.append_inj q12 (rfl)
  have e13 : a13 = b13 := by have := List.head_eq_of_cons_eq p13; injection this
  obtain ⟨p14, q14⟩ := List.append_inj q13 (by simp [GEntry.enc_len])
  have e14 := Enc.inj (α := GEntry) _ _ p14
  obtain ⟨p15, q15⟩ := List.append_inj q14 (by simp [GOpening.enc_len])
  have e15 := Enc.inj (α := GOpening) _ _ p15
  obtain ⟨p16, q16⟩ := List.append_inj q15 (by simp [GDeny.enc_len])
  have e16 := Enc.inj (α := GDeny) _ _ p16
  obtain ⟨p17, q17⟩ := List.append_inj q16 (rfl)
  have e17 : a17 = b17 := by have := List.head_eq_of_cons_eq p17; injection this
  have e18 := Enc.inj (α := GDecided) _ _ q17
  rw [e0, e1, e2, e3, e4, e5, e6, e7, e8, e9, e10, e11, e12, e13, e14, e15, e16, e17, e18]
instance : Enc GMsg where
  n := 295
  enc := GMsg.enc
  pos := by omega
  len := GMsg.enc_len
  one := GMsg.enc_one
  inj := GMsg.enc_inj
@[go_sem] theorem GMsg.n_eq : Enc.n GMsg = 295 := rfl
@[irreducible] def GMsg.val (x : GMsg) : Value := .agg x.enc.toArray
theorem GMsg.val_eq (x : GMsg) : GMsg.val x = .agg (Enc.enc x).toArray := by unfold GMsg.val; rfl
theorem GMsg.ext_all (x y : GMsg) : x = y ↔ x.kind = y.kind ∧ x.from_ = y.from_ ∧ x.to = y.to ∧ x.commit = y.commit ∧ x.stamp = y.stamp ∧ x.cert = y.cert ∧ x.ack = y.ack ∧ x.epoch = y.epoch ∧ x.round = y.round ∧ x.time = y.time ∧ x.promise = y.promise ∧ x.proposal = y.proposal ∧ x.vote = y.vote ∧ x.index = y.index ∧ x.entry = y.entry ∧ x.opening = y.opening ∧ x.deny = y.deny ∧ x.reply = y.reply ∧ x.decided = y.decided := by
  constructor
  · intro h; cases h; simp
  · intro h; cases x; cases y; simp_all
theorem uu73 : Tryz.prog.underlying 73 = some (.struct (Tryz.prog.fieldsOf 73)) := by kernel_rfl
theorem st73 : Tryz.prog.stoodInHeld 73 = false := by kernel_rfl
theorem fl73 : fieldTO Tryz.prog 73 = [(3, 0), (3, 1), (3, 2), (41, 3), (44, 40), (47, 78), (49, 116), (3, 154), (3, 155), (42, 156), (52, 157), (59, 163), (61, 174), (3, 212), (63, 213), (66, 248), (68, 282), (9, 286), (71, 287)] := by kernel_rfl
theorem nb73 : noBlank Tryz.prog 73 = true := by kernel_rfl
@[go_sem ↓ high] theorem xl_GMsg (ρ : Operand → Value) (dst : Option Tmp) (x : Operand) (ty : TypeId) (pos : String) (after : Array Edge) (guard : Option (Nat × Bool)) : execOp ρ { dst, op := .load 73 x, type := ty, pos, after, guard } = (do pure (.value (← gLoad 73 (ρ x)))) := ex_load ..
@[go_sem ↓ high] theorem xs_GMsg (ρ : Operand → Value) (dst : Option Tmp) (x y : Operand) (ty : TypeId) (pos : String) (after : Array Edge) (guard : Option (Nat × Bool)) : execOp ρ { dst, op := .store 73 x y, type := ty, pos, after, guard } = (do gStore 73 (ρ x) (ρ y); pure .skip) := ex_store ..
@[go_sem ↓ high] theorem xb_GMsg (ρ : Operand → Value) (dst : Option Tmp) (x : Operand) (ty : TypeId) (pos : String) (after : Array Edge) (guard : Option (Nat × Bool)) : execOp ρ { dst, op := .box 73 x, type := ty, pos, after, guard } = (do pure (.value (← gBox 73 (ρ x)))) := ex_box ..
@[go_sem ↓ high] theorem xa_GMsg (ρ : Operand → Value) (dst : Option Tmp) (ty : TypeId) (pos : String) (after : Array Edge) (guard : Option (Nat × Bool)) : execOp ρ { dst, op := .alloc 73, type := ty, pos, after, guard } = (do pure (.value (← gAlloc 73))) := ex_alloc ..
theorem ag73 : aggT Tryz.prog 73 = true := by kernel_rfl
theorem sz73 : sizeT Tryz.prog 73 = 295 := by kernel_rfl
section
variable (w : World)
@[go_sem ↓ high] theorem ld_GMsg (a : Addr) : (gLoad 73 (.pointer (some a))).run Tryz.prog w = ofOpt ((get? GMsg w a).map GMsg.val) w (noLoad Tryz.prog 73 a w) := by
  unfold gLoad; exact run_loadAt_opt ag73 sz73 GMsg.val GMsg.val_eq
@[go_sem ↓ high] theorem st_GMsg (a : Addr) (x : GMsg) : (gStore 73 (.pointer (some a)) (GMsg.val x)).run Tryz.prog w = okU' ((get? GMsg w a).isSome && blkFree w a.block) (World.putCells w a (GMsg.enc x)) (noStore Tryz.prog 73 (.pointer (some a)) (GMsg.val x) w) := run_gStore_any sz73 GMsg.val GMsg.val_eq w a x
@[go_sem ↓ high] theorem bx_GMsg (x : GMsg) : (gBox 73 (GMsg.val x)).run Tryz.prog w = .ok (.pointer (some ⟨w.heap.size, 0, none⟩)) (w.alloc (.cells (GMsg.enc x).toArray 73)) := by
  rw [GMsg.val_eq]; exact run_gBox _ w
end
theorem lk73_0 (x : GMsg) : x.enc[0]? = some (.int .i64 x.kind) := by
  simp [GMsg.enc, List.getElem?_append]
theorem pt73_0 (w : World) (x : GMsg) : (part 3 x.enc.toArray 0).run Tryz.prog w = .ok (.int .i64 x.kind) w := run_part_one na3 us3 (lk73_0 x)
@[go_sem ↓ high] theorem fd73_0 (w : World) (x : GMsg) : (gField 73 (GMsg.val x) 0).run Tryz.prog w = .ok (.int .i64 x.kind) w := by
  rw [GMsg.val_eq]
  exact run_gField w uu73 (by rw [fl73]; rfl) (pt73_0 w x)
theorem lk73_1 (x : GMsg) : x.enc[1]? = some (.int .i64 x.from_) := by
  simp [GMsg.enc, List.getElem?_append]
theorem pt73_1 (w : World) (x : GMsg) : (part 3 x.enc.toArray 1).run Tryz.prog w = .ok (.int .i64 x.from_) w := run_part_one na3 us3 (lk73_1 x)
@[go_sem ↓ high] theorem fd73_1 (w : World) (x : GMsg) : (gField 73 (GMsg.val x) 1).run Tryz.prog w = .ok (.int .i64 x.from_) w := by
  rw [GMsg.val_eq]
  exact run_gField w uu73 (by rw [fl73]; rfl) (pt73_1 w x)
theorem lk73_2 (x : GMsg) : x.enc[2]? = some (.int .i64 x.to) := by
  simp [GMsg.enc, List.getElem?_append]
theorem pt73_2 (w : World) (x : GMsg) : (part 3 x.enc.toArray 2).run Tryz.prog w = .ok (.int .i64 x.to) w := run_part_one na3 us3 (lk73_2 x)
@[go_sem ↓ high] theorem fd73_2 (w : World) (x : GMsg) : (gField 73 (GMsg.val x) 2).run Tryz.prog w = .ok (.int .i64 x.to) w := by
  rw [GMsg.val_eq]
  exact run_gField w uu73 (by rw [fl73]; rfl) (pt73_2 w x)
theorem ds73_3 (x : GMsg) : (x.enc.drop 3).take 37 = x.commit.enc := by
  unfold GMsg.enc
  simp [List.drop_append, List.drop_eq_nil_of_le] <;> (rw [List.take_append_of_le_length (by simp [GCommit.enc_len])]; exact List.take_of_length_le (by simp [GCommit.enc_len]))
theorem pt73_3 (w : World) (x : GMsg) : (part 41 x.enc.toArray 3).run Tryz.prog w = .ok (x.commit.val) w := by
  have h := run_part_agg (P := Tryz.prog) (w := w) (cs := x.enc) (ds := x.commit.enc) (off := 3) ag41 (by rw [GCommit.enc_len]; exact sz41) (by simp [GCommit.enc_len]) (by rw [GCommit.enc_len]; exact ds73_3 x)
  rw [h, GCommit.val_eq]; rfl
@[go_sem ↓ high] theorem fd73_3 (w : World) (x : GMsg) : (gField 73 (GMsg.val x) 3).run Tryz.prog w = .ok (x.commit.val) w := by
  rw [GMsg.val_eq]
  exact run_gField w uu73 (by rw [fl73]; rfl) (pt73_3 w x)
theorem ds73_4 (x : GMsg) : (x.enc.drop 40).take 38 = x.stamp.enc := by
  unfold GMsg.enc
  simp [List.drop_append, List.drop_eq_nil_of_le, GCommit.enc_len] <;> (rw [List.take_append_of_le_length (by simp [GStamp.enc_len])]; exact List.take_of_length_le (by simp [GStamp.enc_len]))
theorem pt73_4 (w : World) (x : GMsg) : (part 44 x.enc.toArray 40).run Tryz.prog w = .ok (x.stamp.val) w := by
  have h := run_part_agg (P := Tryz.prog) (w := w) (cs := x.enc) (ds := x.stamp.enc) (off := 40) ag44 (by rw [GStamp.enc_len]; exact sz44) (by simp [GStamp.enc_len]) (by rw [GStamp.enc_len]; exact ds73_4 x)
  rw [h, GStamp.val_eq]; rfl
@[go_sem ↓ high] theorem fd73_4 (w : World) (x : GMsg) : (gField 73 (GMsg.val x) 4).run Tryz.prog w = .ok (x.stamp.val) w := by
  rw [GMsg.val_eq]
  exact run_gField w uu73 (by rw [fl73]; rfl) (pt73_4 w x)
theorem ds73_5 (x : GMsg) : (x.enc.drop 78).take 38 = x.cert.enc := by
  unfold GMsg.enc
  simp [List.drop_append, List.drop_eq_nil_of_le, GCommit.enc_len, GStamp.enc_len] <;> (rw [List.take_append_of_le_length (by simp [GCert.enc_len])]; exact List.take_of_length_le (by simp [GCert.enc_len]))
theorem pt73_5 (w : World) (x : GMsg) : (part 47 x.enc.toArray 78).run Tryz.prog w = .ok (x.cert.val) w := by
  have h := run_part_agg (P := Tryz.prog) (w := w) (cs := x.enc) (ds := x.cert.enc) (off := 78) ag47 (by rw [GCert.enc_len]; exact sz47) (by simp [GCert.enc_len]) (by rw [GCert.enc_len]; exact ds73_5 x)
  rw [h, GCert.val_eq]; rfl
@[go_sem ↓ high] theorem fd73_5 (w : World) (x : GMsg) : (gField 73 (GMsg.val x) 5).run Tryz.prog w = .ok (x.cert.val) w := by
  rw [GMsg.val_eq]
  exact run_gField w uu73 (by rw [fl73]; rfl) (pt73_5 w x)
theorem ds73_6 (x : GMsg) : (x.enc.drop 116).take 38 = x.ack.enc := by
  unfold GMsg.enc
  simp [List.drop_append, List.drop_eq_nil_of_le, GCert.enc_len, GCommit.enc_len, GStamp.enc_len] <;> (rw [List.take_append_of_le_length (by simp [GAck.enc_len])]; exact List.take_of_length_le (by simp [GAck.enc_len]))
theorem pt73_6 (w : World) (x : GMsg) : (part 49 x.enc.toArray 116).run Tryz.prog w = .ok (x.ack.val) w := by
  have h := run_part_agg (P := Tryz.prog) (w := w) (cs := x.enc) (ds := x.ack.enc) (off := 116) ag49 (by rw [GAck.enc_len]; exact sz49) (by simp [GAck.enc_len]) (by rw [GAck.enc_len]; exact ds73_6 x)
  rw [h, GAck.val_eq]; rfl
@[go_sem ↓ high] theorem fd73_6 (w : World) (x : GMsg) : (gField 73 (GMsg.val x) 6).run Tryz.prog w = .ok (x.ack.val) w := by
  rw [GMsg.val_eq]
  exact run_gField w uu73 (by rw [fl73]; rfl) (pt73_6 w x)
theorem lk73_7 (x : GMsg) : x.enc[154]? = some (.int .i64 x.epoch) := by
  simp [GMsg.enc, List.getElem?_append, GAck.enc_len, GCert.enc_len, GCommit.enc_len, GStamp.enc_len]
theorem pt73_7 (w : World) (x : GMsg) : (part 3 x.enc.toArray 154).run Tryz.prog w = .ok (.int .i64 x.epoch) w := run_part_one na3 us3 (lk73_7 x)
@[go_sem ↓ high] theorem fd73_7 (w : World) (x : GMsg) : (gField 73 (GMsg.val x) 7).run Tryz.prog w = .ok (.int .i64 x.epoch) w := by
  rw [GMsg.val_eq]
  exact run_gField w uu73 (by rw [fl73]; rfl) (pt73_7 w x)
theorem lk73_8 (x : GMsg) : x.enc[155]? = some (.int .i64 x.round) := by
  simp [GMsg.enc, List.getElem?_append, GAck.enc_len, GCert.enc_len, GCommit.enc_len, GStamp.enc_len]
theorem pt73_8 (w : World) (x : GMsg) : (part 3 x.enc.toArray 155).run Tryz.prog w = .ok (.int .i64 x.round) w := run_part_one na3 us3 (lk73_8 x)
@[go_sem ↓ high] theorem fd73_8 (w : World) (x : GMsg) : (gField 73 (GMsg.val x) 8).run Tryz.prog w = .ok (.int .i64 x.round) w := by
  rw [GMsg.val_eq]
  exact run_gField w uu73 (by rw [fl73]; rfl) (pt73_8 w x)
theorem lk73_9 (x : GMsg) : x.enc[156]? = some (.int .u64 x.time) := by
  simp [GMsg.enc, List.getElem?_append, GAck.enc_len, GCert.enc_len, GCommit.enc_len, GStamp.enc_len]
theorem pt73_9 (w : World) (x : GMsg) : (part 42 x.enc.toArray 156).run Tryz.prog w = .ok (.int .u64 x.time) w := run_part_one na42 us42 (lk73_9 x)
@[go_sem ↓ high] theorem fd73_9 (w : World) (x : GMsg) : (gField 73 (GMsg.val x) 9).run Tryz.prog w = .ok (.int .u64 x.time) w := by
  rw [GMsg.val_eq]
  exact run_gField w uu73 (by rw [fl73]; rfl) (pt73_9 w x)
theorem ds73_10 (x : GMsg) : (x.enc.drop 157).take 6 = x.promise.enc := by
  unfold GMsg.enc
  simp [List.drop_append, List.drop_eq_nil_of_le, GAck.enc_len, GCert.enc_len, GCommit.enc_len, GStamp.enc_len] <;> (rw [List.take_append_of_le_length (by simp [GPromise.enc_len])]; exact List.take_of_length_le (by simp [GPromise.enc_len]))
theorem pt73_10 (w : World) (x : GMsg) : (part 52 x.enc.toArray 157).run Tryz.prog w = .ok (x.promise.val) w := by
  have h := run_part_agg (P := Tryz.prog) (w := w) (cs := x.enc) (ds := x.promise.enc) (off := 157) ag52 (by rw [GPromise.enc_len]; exact sz52) (by simp [GPromise.enc_len]) (by rw [GPromise.enc_len]; exact ds73_10 x)
  rw [h, GPromise.val_eq]; rfl
@[go_sem ↓ high] theorem fd73_10 (w : World) (x : GMsg) : (gField 73 (GMsg.val x) 10).run Tryz.prog w = .ok (x.promise.val) w := by
  rw [GMsg.val_eq]
  exact run_gField w uu73 (by rw [fl73]; rfl) (pt73_10 w x)
theorem ds73_11 (x : GMsg) : (x.enc.drop 163).take 11 = x.proposal.enc := by
  unfold GMsg.enc
  simp [List.drop_append, List.drop_eq_nil_of_le, GAck.enc_len, GCert.enc_len, GCommit.enc_len, GPromise.enc_len, GStamp.enc_len] <;> (rw [List.take_append_of_le_length (by simp [GProposal.enc_len])]; exact List.take_of_length_le (by simp [GProposal.enc_len]))
theorem pt73_11 (w : World) (x : GMsg) : (part 59 x.enc.toArray 163).run Tryz.prog w = .ok (x.proposal.val) w := by
  have h := run_part_agg (P := Tryz.prog) (w := w) (cs := x.enc) (ds := x.proposal.enc) (off := 163) ag59 (by rw [GProposal.enc_len]; exact sz59) (by simp [GProposal.enc_len]) (by rw [GProposal.enc_len]; exact ds73_11 x)
  rw [h, GProposal.val_eq]; rfl
@[go_sem ↓ high] theorem fd73_11 (w : World) (x : GMsg) : (gField 73 (GMsg.val x) 11).run Tryz.prog w = .ok (x.proposal.val) w := by
  rw [GMsg.val_eq]
  exact run_gField w uu73 (by rw [fl73]; rfl) (pt73_11 w x)
theorem ds73_12 (x : GMsg) : (x.enc.drop 174).take 38 = x.vote.enc := by
  unfold GMsg.enc
  simp [List.drop_append, List.drop_eq_nil_of_le, GAck.enc_len, GCert.enc_len, GCommit.enc_len, GPromise.enc_len, GProposal.enc_len, GStamp.enc_len] <;> (rw [List.take_append_of_le_length (by simp [GVote.enc_len])]; exact List.take_of_length_le (by simp [GVote.enc_len]))
theorem pt73_12 (w : World) (x : GMsg) : (part 61 x.enc.toArray 174).run Tryz.prog w = .ok (x.vote.val) w := by
  have h := run_part_agg (P := Tryz.prog) (w := w) (cs := x.enc) (ds := x.vote.enc) (off := 174) ag61 (by rw [GVote.enc_len]; exact sz61) (by simp [GVote.enc_len]) (by rw [GVote.enc_len]; exact ds73_12 x)
  rw [h, GVote.val_eq]; rfl
@[go_sem ↓ high] theorem fd73_12 (w : World) (x : GMsg) : (gField 73 (GMsg.val x) 12).run Tryz.prog w = .ok (x.vote.val) w := by
  rw [GMsg.val_eq]
  exact run_gField w uu73 (by rw [fl73]; rfl) (pt73_12 w x)
theorem lk73_13 (x : GMsg) : x.enc[212]? = some (.int .i64 x.index) := by
  simp [GMsg.enc, List.getElem?_append, GAck.enc_len, GCert.enc_len, GCommit.enc_len, GPromise.enc_len, GProposal.enc_len, GStamp.enc_len, GVote.enc_len]
theorem pt73_13 (w : World) (x : GMsg) : (part 3 x.enc.toArray 212).run Tryz.prog w = .ok (.int .i64 x.index) w := run_part_one na3 us3 (lk73_13 x)
@[go_sem ↓ high] theorem fd73_13 (w : World) (x : GMsg) : (gField 73 (GMsg.val x) 13).run Tryz.prog w = .ok (.int .i64 x.index) w := by
  rw [GMsg.val_eq]
  exact run_gField w uu73 (by rw [fl73]; rfl) (pt73_13 w x)
theorem ds73_14 (x : GMsg) : (x.enc.drop 213).take 35 = x.entry.enc := by
  unfold GMsg.enc
  simp [List.drop_append, List.drop_eq_nil_of_le, GAck.enc_len, GCert.enc_len, GCommit.enc_len, GPromise.enc_len, GProposal.enc_len, GStamp.enc_len, GVote.enc_len] <;> (rw [List.take_append_of_le_length (by simp [GEntry.enc_len])]; exact List.take_of_length_le (by simp [GEntry.enc_len]))
theorem pt73_14 (w : World) (x : GMsg) : (part 63 x.enc.toArray 213).run Tryz.prog w = .ok (x.entry.val) w := by
  have h := run_part_agg (P := Tryz.prog) (w := w) (cs := x.enc) (ds := x.entry.enc) (off := 213) ag63 (by rw [GEntry.enc_len]; exact sz63) (by simp [GEntry.enc_len]) (by rw [GEntry.enc_len]; exact ds73_14 x)
  rw [h, GEntry.val_eq]; rfl
@[go_sem ↓ high] theorem fd73_14 (w : World) (x : GMsg) : (gField 73 (GMsg.val x) 14).run Tryz.prog w = .ok (x.entry.val) w := by
  rw [GMsg.val_eq]
  exact run_gField w uu73 (by rw [fl73]; rfl) (pt73_14 w x)
theorem ds73_15 (x : GMsg) : (x.enc.drop 248).take 34 = x.opening.enc := by
  unfold GMsg.enc
  simp [List.drop_append, List.drop_eq_nil_of_le, GAck.enc_len, GCert.enc_len, GCommit.enc_len, GEntry.enc_len, GPromise.enc_len, GProposal.enc_len, GStamp.enc_len, GVote.enc_len] <;> (rw [List.take_append_of_le_length (by simp [GOpening.enc_len])]; exact List.take_of_length_le (by simp [GOpening.enc_len]))
theorem pt73_15 (w : World) (x : GMsg) : (part 66 x.enc.toArray 248).run Tryz.prog w = .ok (x.opening.val) w := by
  have h := run_part_agg (P := Tryz.prog) (w := w) (cs := x.enc) (ds := x.opening.enc) (off := 248) ag66 (by rw [GOpening.enc_len]; exact sz66) (by simp [GOpening.enc_len]) (by rw [GOpening.enc_len]; exact ds73_15 x)
  rw [h, GOpening.val_eq]; rfl
@[go_sem ↓ high] theorem fd73_15 (w : World) (x : GMsg) : (gField 73 (GMsg.val x) 15).run Tryz.prog w = .ok (x.opening.val) w := by
  rw [GMsg.val_eq]
  exact run_gField w uu73 (by rw [fl73]; rfl) (pt73_15 w x)
theorem ds73_16 (x : GMsg) : (x.enc.drop 282).take 4 = x.deny.enc := by
  unfold GMsg.enc
  simp [List.drop_append, List.drop_eq_nil_of_le, GAck.enc_len, GCert.enc_len, GCommit.enc_len, GEntry.enc_len, GOpening.enc_len, GPromise.enc_len, GProposal.enc_len, GStamp.enc_len, GVote.enc_len] <;> (rw [List.take_append_of_le_length (by simp [GDeny.enc_len])]; exact List.take_of_length_le (by simp [GDeny.enc_len]))
theorem pt73_16 (w : World) (x : GMsg) : (part 68 x.enc.toArray 282).run Tryz.prog w = .ok (x.deny.val) w := by
  have h := run_part_agg (P := Tryz.prog) (w := w) (cs := x.enc) (ds := x.deny.enc) (off := 282) ag68 (by rw [GDeny.enc_len]; exact sz68) (by simp [GDeny.enc_len]) (by rw [GDeny.enc_len]; exact ds73_16 x)
  rw [h, GDeny.val_eq]; rfl
@[go_sem ↓ high] theorem fd73_16 (w : World) (x : GMsg) : (gField 73 (GMsg.val x) 16).run Tryz.prog w = .ok (x.deny.val) w := by
  rw [GMsg.val_eq]
  exact run_gField w uu73 (by rw [fl73]; rfl) (pt73_16 w x)
theorem lk73_17 (x : GMsg) : x.enc[286]? = some (.string x.reply) := by
  simp [GMsg.enc, List.getElem?_append, GAck.enc_len, GCert.enc_len, GCommit.enc_len, GDeny.enc_len, GEntry.enc_len, GOpening.enc_len, GPromise.enc_len, GProposal.enc_len, GStamp.enc_len, GVote.enc_len]
theorem pt73_17 (w : World) (x : GMsg) : (part 9 x.enc.toArray 286).run Tryz.prog w = .ok (.string x.reply) w := run_part_one na9 us9 (lk73_17 x)
@[go_sem ↓ high] theorem fd73_17 (w : World) (x : GMsg) : (gField 73 (GMsg.val x) 17).run Tryz.prog w = .ok (.string x.reply) w := by
  rw [GMsg.val_eq]
  exact run_gField w uu73 (by rw [fl73]; rfl) (pt73_17 w x)
theorem ds73_18 (x : GMsg) : (x.enc.drop 287).take 8 = x.decided.enc := by
  unfold GMsg.enc
  simp [List.drop_append, List.drop_eq_nil_of_le, GAck.enc_len, GCert.enc_len, GCommit.enc_len, GDeny.enc_len, GEntry.enc_len, GOpening.enc_len, GPromise.enc_len, GProposal.enc_len, GStamp.enc_len, GVote.enc_len] <;> (exact List.take_of_length_le (by simp [GDecided.enc_len]))
theorem pt73_18 (w : World) (x : GMsg) : (part 71 x.enc.toArray 287).run Tryz.prog w = .ok (x.decided.val) w := by
  have h := run_part_agg (P := Tryz.prog) (w := w) (cs := x.enc) (ds := x.decided.enc) (off := 287) ag71 (by rw [GDecided.enc_len]; exact sz71) (by simp [GDecided.enc_len]) (by rw [GDecided.enc_len]; exact ds73_18 x)
  rw [h, GDecided.val_eq]; rfl
@[go_sem ↓ high] theorem fd73_18 (w : World) (x : GMsg) : (gField 73 (GMsg.val x) 18).run Tryz.prog w = .ok (x.decided.val) w := by
  rw [GMsg.val_eq]
  exact run_gField w uu73 (by rw [fl73]; rfl) (pt73_18 w x)
@[go_sem ↓ high] theorem xf_GMsg (ρ : Operand → Value) (dst : Option Tmp) (x : Operand) (i : Nat) (ty : TypeId) (pos : String) (after : Array Edge) (guard : Option (Nat × Bool)) : execOp ρ { dst, op := .field 73 x i, type := ty, pos, after, guard } = (do pure (.value (← gField 73 (ρ x) i))) := ex_field ..
theorem zr73 : zeroT Tryz.prog 73 = some (.agg (GMsg.enc default).toArray) := by kernel_rfl
@[go_sem ↓ high] theorem al_GMsg (w : World) : (gAlloc 73).run Tryz.prog w = .ok (.pointer (some ⟨w.heap.size, 0, none⟩)) (w.alloc (.cells (GMsg.enc default).toArray 73)) := run_zero_alloc zr73 w
@[go_sem] theorem pc_GMsg (w : World) (n : Nat) (x z : GMsg) (hn : n = w.heap.size) : World.putCells (w.alloc (.cells (GMsg.enc z).toArray 73)) ⟨n, 0, none⟩ (GMsg.enc x) = w.alloc (.cells (GMsg.enc x).toArray 73) := putCells_top x z hn
theorem GMsg.at_kind {w : World} {a : Addr} {x : GMsg} (h : get? GMsg w a = some x) : w.cell? (a.add 0) = some (.int .i64 x.kind) := (get?_iff.1 h) _ _ (lk73_0 x)
theorem GMsg.at_from_ {w : World} {a : Addr} {x : GMsg} (h : get? GMsg w a = some x) : w.cell? (a.add 1) = some (.int .i64 x.from_) := (get?_iff.1 h) _ _ (lk73_1 x)
theorem GMsg.at_to {w : World} {a : Addr} {x : GMsg} (h : get? GMsg w a = some x) : w.cell? (a.add 2) = some (.int .i64 x.to) := (get?_iff.1 h) _ _ (lk73_2 x)
theorem GMsg.at_commit {w : World} {a : Addr} {x : GMsg} (h : get? GMsg w a = some x) : get? GCommit w (a.add 3) = some x.commit := by
  rw [get?_iff] at h ⊢
  refine h.sub 3 fun j v hv => ?_
  have hd := ds73_3 x
  have hj : j < 37 := by have := (List.getElem?_eq_some_iff.1 hv).1; rwa [Enc.len] at this
  show x.enc[3 + j]? = some v
  rw [← List.getElem?_drop, ← List.getElem?_take_of_lt hj, hd]; exact hv
theorem GMsg.at_stamp {w : World} {a : Addr} {x : GMsg} (h : get? GMsg w a = some x) : get? GStamp w (a.add 40) = some x.stamp := by
  rw [get?_iff] at h ⊢
  refine h.sub 40 fun j v hv => ?_
  have hd := ds73_4 x
  have hj : j < 38 := by have := (List.getElem?_eq_some_iff.1 hv).1; rwa [Enc.len] at this
  show x.enc[40 + j]? = some v
  rw [← List.getElem?_drop, ← List.getElem?_take_of_lt hj, hd]; exact hv
theorem GMsg.at_cert {w : World} {a : Addr} {x : GMsg} (h : get? GMsg w a = some x) : get? GCert w (a.add 78) = some x.cert := by
  rw [get?_iff] at h ⊢
  refine h.sub 78 fun j v hv => ?_
  have hd := ds73_5 x
  have hj : j < 38 := by have := (List.getElem?_eq_some_iff.1 hv).1; rwa [Enc.len] at this
  show x.enc[78 + j]? = some v
  rw [← List.getElem?_drop, ← List.getElem?_take_of_lt hj, hd]; exact hv
theorem GMsg.at_ack {w : World} {a : Addr} {x : GMsg} (h : get? GMsg w a = some x) : get? GAck w (a.add 116) = some x.ack := by
  rw [get?_iff] at h ⊢
  refine h.sub 116 fun j v hv => ?_
  have hd := ds73_6 x
  have hj : j < 38 := by have := (List.getElem?_eq_some_iff.1 hv).1; rwa [Enc.len] at this
  show x.enc[116 + j]? = some v
  rw [← List.getElem?_drop, ← List.getElem?_take_of_lt hj, hd]; exact hv
theorem GMsg.at_epoch {w : World} {a : Addr} {x : GMsg} (h : get? GMsg w a = some x) : w.cell? (a.add 154) = some (.int .i64 x.epoch) := (get?_iff.1 h) _ _ (lk73_7 x)
theorem GMsg.at_round {w : World} {a : Addr} {x : GMsg} (h : get? GMsg w a = some x) : w.cell? (a.add 155) = some (.int .i64 x.round) := (get?_iff.1 h) _ _ (lk73_8 x)
theorem GMsg.at_time {w : World} {a : Addr} {x : GMsg} (h : get? GMsg w a = some x) : w.cell? (a.add 156) = some (.int .u64 x.time) := (get?_iff.1 h) _ _ (lk73_9 x)
theorem GMsg.at_promise {w : World} {a : Addr} {x : GMsg} (h : get? GMsg w a = some x) : get? GPromise w (a.add 157) = some x.promise := by
  rw [get?_iff] at h ⊢
  refine h.sub 157 fun j v hv => ?_
  have hd := ds73_10 x
  have hj : j < 6 := by have := (List.getElem?_eq_some_iff.1 hv).1; rwa [Enc.len] at this
  show x.enc[157 + j]? = some v
  rw [← List.getElem?_drop, ← List.getElem?_take_of_lt hj, hd]; exact hv
theorem GMsg.at_proposal {w : World} {a : Addr} {x : GMsg} (h : get? GMsg w a = some x) : get? GProposal w (a.add 163) = some x.proposal := by
  rw [get?_iff] at h ⊢
  refine h.sub 163 fun j v hv => ?_
  have hd := ds73_11 x
  have hj : j < 11 := by have := (List.getElem?_eq_some_iff.1 hv).1; rwa [Enc.len] at this
  show x.enc[163 + j]? = some v
  rw [← List.getElem?_drop, ← List.getElem?_take_of_lt hj, hd]; exact hv
theorem GMsg.at_vote {w : World} {a : Addr} {x : GMsg} (h : get? GMsg w a = some x) : get? GVote w (a.add 174) = some x.vote := by
  rw [get?_iff] at h ⊢
  refine h.sub 174 fun j v hv => ?_
  have hd := ds73_12 x
  have hj : j < 38 := by have := (List.getElem?_eq_some_iff.1 hv).1; rwa [Enc.len] at this
  show x.enc[174 + j]? = some v
  rw [← List.getElem?_drop, ← List.getElem?_take_of_lt hj, hd]; exact hv
theorem GMsg.at_index {w : World} {a : Addr} {x : GMsg} (h : get? GMsg w a = some x) : w.cell? (a.add 212) = some (.int .i64 x.index) := (get?_iff.1 h) _ _ (lk73_13 x)
theorem GMsg.at_entry {w : World} {a : Addr} {x : GMsg} (h : get? GMsg w a = some x) : get? GEntry w (a.add 213) = some x.entry := by
  rw [get?_iff] at h ⊢
  refine h.sub 213 fun j v hv => ?_
  have hd := ds73_14 x
  have hj : j < 35 := by have := (List.getElem?_eq_some_iff.1 hv).1; rwa [Enc.len] at this
  show x.enc[213 + j]? = some v
  rw [← List.getElem?_drop, ← List.getElem?_take_of_lt hj, hd]; exact hv
theorem GMsg.at_opening {w : World} {a : Addr} {x : GMsg} (h : get? GMsg w a = some x) : get? GOpening w (a.add 248) = some x.opening := by
  rw [get?_iff] at h ⊢
  refine h.sub 248 fun j v hv => ?_
  have hd := ds73_15 x
  have hj : j < 34 := by have := (List.getElem?_eq_some_iff.1 hv).1; rwa [Enc.len] at this
  show x.enc[248 + j]? = some v
  rw [← List.getElem?_drop, ← List.getElem?_take_of_lt hj, hd]; exact hv
theorem GMsg.at_deny {w : World} {a : Addr} {x : GMsg} (h : get? GMsg w a = some x) : get? GDeny w (a.add 282) = some x.deny := by
  rw [get?_iff] at h ⊢
  refine h.sub 282 fun j v hv => ?_
  have hd := ds73_16 x
  have hj : j < 4 := by have := (List.getElem?_eq_some_iff.1 hv).1; rwa [Enc.len] at this
  show x.enc[282 + j]? = some v
  rw [← List.getElem?_drop, ← List.getElem?_take_of_lt hj, hd]; exact hv
theorem GMsg.at_reply {w : World} {a : Addr} {x : GMsg} (h : get? GMsg w a = some x) : w.cell? (a.add 286) = some (.string x.reply) := (get?_iff.1 h) _ _ (lk73_17 x)
theorem GMsg.at_decided {w : World} {a : Addr} {x : GMsg} (h : get? GMsg w a = some x) : get? GDecided w (a.add 287) = some x.decided := by
  rw [get?_iff] at h ⊢
  refine h.sub 287 fun j v hv => ?_
  have hd := ds73_18 x
  have hj : j < 8 := by have := (List.getElem?_eq_some_iff.1 hv).1; rwa [Enc.len] at this
  show x.enc[287 + j]? = some v
  rw [← List.getElem?_drop, ← List.getElem?_take_of_lt hj, hd]; exact hv
@[go_sem] theorem nl73_0 (x : GMsg) : x.enc[0]? = some (.int .i64 x.kind) := by
  have h := (GMsg.at_kind (get?_new (w := (default : World)) 73 x))
  simp only [Addr.add_lit, Nat.zero_add, Nat.reduceAdd, World.cell?_alloc_new, List.getElem?_toArray] at h
  exact h
@[go_sem] theorem nl73_1 (x : GMsg) : x.enc[1]? = some (.int .i64 x.from_) := by
  have h := (GMsg.at_from_ (get?_new (w := (default : World)) 73 x))
  simp only [Addr.add_lit, Nat.zero_add, Nat.reduceAdd, World.cell?_alloc_new, List.getElem?_toArray] at h
  exact h
@[go_sem] theorem nl73_2 (x : GMsg) : x.enc[2]? = some (.int .i64 x.to) := by
  have h := (GMsg.at_to (get?_new (w := (default : World)) 73 x))
  simp only [Addr.add_lit, Nat.zero_add, Nat.reduceAdd, World.cell?_alloc_new, List.getElem?_toArray] at h
  exact h
@[go_sem] theorem nw73_3_GCommit (w : World) (n : Nat) (x : GMsg) (hn : n = w.heap.size) : get? GCommit (w.alloc (.cells (GMsg.enc x).toArray 73)) ⟨n, 3, none⟩ = some x.commit := by
  subst hn
  have h := (GMsg.at_commit (get?_new (w := w) 73 x))
  simp only [Addr.add_lit, Nat.zero_add, Nat.reduceAdd] at h
  exact h
@[go_sem] theorem nw73_3_GName (w : World) (n : Nat) (x : GMsg) (hn : n = w.heap.size) : get? GName (w.alloc (.cells (GMsg.enc x).toArray 73)) ⟨n, 3, none⟩ = some x.commit.name := by
  subst hn
  have h := (GCommit.at_name (GMsg.at_commit (get?_new (w := w) 73 x)))
  simp only [Addr.add_lit, Nat.zero_add, Nat.reduceAdd] at h
  exact h
@[go_sem] theorem nl73_3 (x : GMsg) : x.enc[3]? = some (.int .i64 x.commit.name.client) := by
  have h := (GName.at_client (GCommit.at_name (GMsg.at_commit (get?_new (w := (default : World)) 73 x))))
  simp only [Addr.add_lit, Nat.zero_add, Nat.reduceAdd, World.cell?_alloc_new, List.getElem?_toArray] at h
  exact h
@[go_sem] theorem nw73_40_GStamp (w : World) (n : Nat) (x : GMsg) (hn : n = w.heap.size) : get? GStamp (w.alloc (.cells (GMsg.enc x).toArray 73)) ⟨n, 40, none⟩ = some x.stamp := by
  subst hn
  have h := (GMsg.at_stamp (get?_new (w := w) 73 x))
  simp only [Addr.add_lit, Nat.zero_add, Nat.reduceAdd] at h
  exact h
@[go_sem] theorem nl73_40 (x : GMsg) : x.enc[40]? = some (.int .i64 x.stamp.replica) := by
  have h := (GStamp.at_replica (GMsg.at_stamp (get?_new (w := (default : World)) 73 x)))
  simp only [Addr.add_lit, Nat.zero_add, Nat.reduceAdd, World.cell?_alloc_new, List.getElem?_toArray] at h
  exact h
@[go_sem] theorem nw73_78_GCert (w : World) (n : Nat) (x : GMsg) (hn : n = w.heap.size) : get? GCert (w.alloc (.cells (GMsg.enc x).toArray 73)) ⟨n, 78, none⟩ = some x.cert := by
  subst hn
  have h := (GMsg.at_cert (get?_new (w := w) 73 x))
  simp only [Addr.add_lit, Nat.zero_add, Nat.reduceAdd] at h
  exact h
@[go_sem] theorem nw73_78_GCommit (w : World) (n : Nat) (x : GMsg) (hn : n = w.heap.size) : get? GCommit (w.alloc (.cells (GMsg.enc x).toArray 73)) ⟨n, 78, none⟩ = some x.cert.commit := by
  subst hn
  have h := (GCert.at_commit (GMsg.at_cert (get?_new (w := w) 73 x)))
  simp only [Addr.add_lit, Nat.zero_add, Nat.reduceAdd] at h
  exact h
@[go_sem] theorem nw73_78_GName (w : World) (n : Nat) (x : GMsg) (hn : n = w.heap.size) : get? GName (w.alloc (.cells (GMsg.enc x).toArray 73)) ⟨n, 78, none⟩ = some x.cert.commit.name := by
  subst hn
  have h := (GCommit.at_name (GCert.at_commit (GMsg.at_cert (get?_new (w := w) 73 x))))
  simp only [Addr.add_lit, Nat.zero_add, Nat.reduceAdd] at h
  exact h
@[go_sem] theorem nl73_78 (x : GMsg) : x.enc[78]? = some (.int .i64 x.cert.commit.name.client) := by
  have h := (GName.at_client (GCommit.at_name (GCert.at_commit (GMsg.at_cert (get?_new (w := (default : World)) 73 x)))))
  simp only [Addr.add_lit, Nat.zero_add, Nat.reduceAdd, World.cell?_alloc_new, List.getElem?_toArray] at h
  exact h
@[go_sem] theorem nw73_116_GAck (w : World) (n : Nat) (x : GMsg) (hn : n = w.heap.size) : get? GAck (w.alloc (.cells (GMsg.enc x).toArray 73)) ⟨n, 116, none⟩ = some x.ack := by
  subst hn
  have h := (GMsg.at_ack (get?_new (w := w) 73 x))
  simp only [Addr.add_lit, Nat.zero_add, Nat.reduceAdd] at h
  exact h
@[go_sem] theorem nl73_116 (x : GMsg) : x.enc[116]? = some (.int .i64 x.ack.replica) := by
  have h := (GAck.at_replica (GMsg.at_ack (get?_new (w := (default : World)) 73 x)))
  simp only [Addr.add_lit, Nat.zero_add, Nat.reduceAdd, World.cell?_alloc_new, List.getElem?_toArray] at h
  exact h
@[go_sem] theorem nl73_154 (x : GMsg) : x.enc[154]? = some (.int .i64 x.epoch) := by
  have h := (GMsg.at_epoch (get?_new (w := (default : World)) 73 x))
  simp only [Addr.add_lit, Nat.zero_add, Nat.reduceAdd, World.cell?_alloc_new, List.getElem?_toArray] at h
  exact h
@[go_sem] theorem nl73_155 (x : GMsg) : x.enc[155]? = some (.int .i64 x.round) := by
  have h := (GMsg.at_round (get?_new (w := (default : World)) 73 x))
  simp only [Addr.add_lit, Nat.zero_add, Nat.reduceAdd, World.cell?_alloc_new, List.getElem?_toArray] at h
  exact h
@[go_sem] theorem nl73_156 (x : GMsg) : x.enc[156]? = some (.int .u64 x.time) := by
  have h := (GMsg.at_time (get?_new (w := (default : World)) 73 x))
  simp only [Addr.add_lit, Nat.zero_add, Nat.reduceAdd, World.cell?_alloc_new, List.getElem?_toArray] at h
  exact h
@[go_sem] theorem nw73_157_GPromise (w : World) (n : Nat) (x : GMsg) (hn : n = w.heap.size) : get? GPromise (w.alloc (.cells (GMsg.enc x).toArray 73)) ⟨n, 157, none⟩ = some x.promise := by
  subst hn
  have h := (GMsg.at_promise (get?_new (w := w) 73 x))
  simp only [Addr.add_lit, Nat.zero_add, Nat.reduceAdd] at h
  exact h
@[go_sem] theorem nl73_157 (x : GMsg) : x.enc[157]? = some (.int .i64 x.promise.replica) := by
  have h := (GPromise.at_replica (GMsg.at_promise (get?_new (w := (default : World)) 73 x)))
  simp only [Addr.add_lit, Nat.zero_add, Nat.reduceAdd, World.cell?_alloc_new, List.getElem?_toArray] at h
  exact h
@[go_sem] theorem nl73_158 (x : GMsg) : x.enc[158]? = some (.int .i64 x.promise.epoch) := by
  have h := (GPromise.at_epoch (GMsg.at_promise (get?_new (w := (default : World)) 73 x)))
  simp only [Addr.add_lit, Nat.zero_add, Nat.reduceAdd, World.cell?_alloc_new, List.getElem?_toArray] at h
  exact h
@[go_sem] theorem nw73_163_GProposal (w : World) (n : Nat) (x : GMsg) (hn : n = w.heap.size) : get? GProposal (w.alloc (.cells (GMsg.enc x).toArray 73)) ⟨n, 163, none⟩ = some x.proposal := by
  subst hn
  have h := (GMsg.at_proposal (get?_new (w := w) 73 x))
  simp only [Addr.add_lit, Nat.zero_add, Nat.reduceAdd] at h
  exact h
@[go_sem] theorem nl73_163 (x : GMsg) : x.enc[163]? = some (.int .i64 x.proposal.epoch) := by
  have h := (GProposal.at_epoch (GMsg.at_proposal (get?_new (w := (default : World)) 73 x)))
  simp only [Addr.add_lit, Nat.zero_add, Nat.reduceAdd, World.cell?_alloc_new, List.getElem?_toArray] at h
  exact h
@[go_sem] theorem nw73_167_GBatch (w : World) (n : Nat) (x : GMsg) (hn : n = w.heap.size) : get? GBatch (w.alloc (.cells (GMsg.enc x).toArray 73)) ⟨n, 167, none⟩ = some x.proposal.batch := by
  subst hn
  have h := (GProposal.at_batch (GMsg.at_proposal (get?_new (w := w) 73 x)))
  simp only [Addr.add_lit, Nat.zero_add, Nat.reduceAdd] at h
  exact h
@[go_sem] theorem nl73_167 (x : GMsg) : x.enc[167]? = some (.int .i64 x.proposal.batch.epoch) := by
  have h := (GBatch.at_epoch (GProposal.at_batch (GMsg.at_proposal (get?_new (w := (default : World)) 73 x))))
  simp only [Addr.add_lit, Nat.zero_add, Nat.reduceAdd, World.cell?_alloc_new, List.getElem?_toArray] at h
  exact h
@[go_sem] theorem nw73_174_GVote (w : World) (n : Nat) (x : GMsg) (hn : n = w.heap.size) : get? GVote (w.alloc (.cells (GMsg.enc x).toArray 73)) ⟨n, 174, none⟩ = some x.vote := by
  subst hn
  have h := (GMsg.at_vote (get?_new (w := w) 73 x))
  simp only [Addr.add_lit, Nat.zero_add, Nat.reduceAdd] at h
  exact h
@[go_sem] theorem nl73_174 (x : GMsg) : x.enc[174]? = some (.int .i64 x.vote.kind) := by
  have h := (GVote.at_kind (GMsg.at_vote (get?_new (w := (default : World)) 73 x)))
  simp only [Addr.add_lit, Nat.zero_add, Nat.reduceAdd, World.cell?_alloc_new, List.getElem?_toArray] at h
  exact h
@[go_sem] theorem nl73_175 (x : GMsg) : x.enc[175]? = some (.int .i64 x.vote.epoch) := by
  have h := (GVote.at_epoch (GMsg.at_vote (get?_new (w := (default : World)) 73 x)))
  simp only [Addr.add_lit, Nat.zero_add, Nat.reduceAdd, World.cell?_alloc_new, List.getElem?_toArray] at h
  exact h
@[go_sem] theorem nl73_212 (x : GMsg) : x.enc[212]? = some (.int .i64 x.index) := by
  have h := (GMsg.at_index (get?_new (w := (default : World)) 73 x))
  simp only [Addr.add_lit, Nat.zero_add, Nat.reduceAdd, World.cell?_alloc_new, List.getElem?_toArray] at h
  exact h
@[go_sem] theorem nw73_213_GEntry (w : World) (n : Nat) (x : GMsg) (hn : n = w.heap.size) : get? GEntry (w.alloc (.cells (GMsg.enc x).toArray 73)) ⟨n, 213, none⟩ = some x.entry := by
  subst hn
  have h := (GMsg.at_entry (get?_new (w := w) 73 x))
  simp only [Addr.add_lit, Nat.zero_add, Nat.reduceAdd] at h
  exact h
@[go_sem] theorem nw73_213_GName (w : World) (n : Nat) (x : GMsg) (hn : n = w.heap.size) : get? GName (w.alloc (.cells (GMsg.enc x).toArray 73)) ⟨n, 213, none⟩ = some x.entry.name := by
  subst hn
  have h := (GEntry.at_name (GMsg.at_entry (get?_new (w := w) 73 x)))
  simp only [Addr.add_lit, Nat.zero_add, Nat.reduceAdd] at h
  exact h
@[go_sem] theorem nl73_213 (x : GMsg) : x.enc[213]? = some (.int .i64 x.entry.name.client) := by
  have h := (GName.at_client (GEntry.at_name (GMsg.at_entry (get?_new (w := (default : World)) 73 x))))
  simp only [Addr.add_lit, Nat.zero_add, Nat.reduceAdd, World.cell?_alloc_new, List.getElem?_toArray] at h
  exact h
@[go_sem] theorem nw73_248_GOpening (w : World) (n : Nat) (x : GMsg) (hn : n = w.heap.size) : get? GOpening (w.alloc (.cells (GMsg.enc x).toArray 73)) ⟨n, 248, none⟩ = some x.opening := by
  subst hn
  have h := (GMsg.at_opening (get?_new (w := w) 73 x))
  simp only [Addr.add_lit, Nat.zero_add, Nat.reduceAdd] at h
  exact h
@[go_sem] theorem nl73_248 (x : GMsg) : x.enc[248]? = some (.int .i64 x.opening.index) := by
  have h := (GOpening.at_index (GMsg.at_opening (get?_new (w := (default : World)) 73 x)))
  simp only [Addr.add_lit, Nat.zero_add, Nat.reduceAdd, World.cell?_alloc_new, List.getElem?_toArray] at h
  exact h
@[go_sem] theorem nw73_282_GDeny (w : World) (n : Nat) (x : GMsg) (hn : n = w.heap.size) : get? GDeny (w.alloc (.cells (GMsg.enc x).toArray 73)) ⟨n, 282, none⟩ = some x.deny := by
  subst hn
  have h := (GMsg.at_deny (get?_new (w := w) 73 x))
  simp only [Addr.add_lit, Nat.zero_add, Nat.reduceAdd] at h
  exact h
@[go_sem] theorem nl73_282 (x : GMsg) : x.enc[282]? = some (.int .i64 x.deny.replica) := by
  have h := (GDeny.at_replica (GMsg.at_deny (get?_new (w := (default : World)) 73 x)))
  simp only [Addr.add_lit, Nat.zero_add, Nat.reduceAdd, World.cell?_alloc_new, List.getElem?_toArray] at h
  exact h
@[go_sem] theorem nl73_286 (x : GMsg) : x.enc[286]? = some (.string x.reply) := by
  have h := (GMsg.at_reply (get?_new (w := (default : World)) 73 x))
  simp only [Addr.add_lit, Nat.zero_add, Nat.reduceAdd, World.cell?_alloc_new, List.getElem?_toArray] at h
  exact h
@[go_sem] theorem nw73_287_GDecided (w : World) (n : Nat) (x : GMsg) (hn : n = w.heap.size) : get? GDecided (w.alloc (.cells (GMsg.enc x).toArray 73)) ⟨n, 287, none⟩ = some x.decided := by
  subst hn
  have h := (GMsg.at_decided (get?_new (w := w) 73 x))
  simp only [Addr.add_lit, Nat.zero_add, Nat.reduceAdd] at h
  exact h
@[go_sem] theorem nl73_287 (x : GMsg) : x.enc[287]? = some (.int .i64 x.decided.epoch) := by
  have h := (GDecided.at_epoch (GMsg.at_decided (get?_new (w := (default : World)) 73 x)))
  simp only [Addr.add_lit, Nat.zero_add, Nat.reduceAdd, World.cell?_alloc_new, List.getElem?_toArray] at h
  exact h
@[go_sem] theorem nw73_289_GBatch (w : World) (n : Nat) (x : GMsg) (hn : n = w.heap.size) : get? GBatch (w.alloc (.cells (GMsg.enc x).toArray 73)) ⟨n, 289, none⟩ = some x.decided.batch := by
  subst hn
  have h := (GDecided.at_batch (GMsg.at_decided (get?_new (w := w) 73 x)))
  simp only [Addr.add_lit, Nat.zero_add, Nat.reduceAdd] at h
  exact h
@[go_sem] theorem nl73_289 (x : GMsg) : x.enc[289]? = some (.int .i64 x.decided.batch.epoch) := by
  have h := (GBatch.at_epoch (GDecided.at_batch (GMsg.at_decided (get?_new (w := (default : World)) 73 x))))
  simp only [Addr.add_lit, Nat.zero_add, Nat.reduceAdd, World.cell?_alloc_new, List.getElem?_toArray] at h
  exact h
@[go_sem] theorem nl73_294 (x : GMsg) : x.enc[294]? = some (x.decided.votes.val) := by
  have h := (GDecided.at_votes (GMsg.at_decided (get?_new (w := (default : World)) 73 x)))
  simp only [Addr.add_lit, Nat.zero_add, Nat.reduceAdd, World.cell?_alloc_new, List.getElem?_toArray] at h
  exact h
@[go_sem] theorem nw73 (w : World) (n : Nat) (x : GMsg) (hn : n = w.heap.size) : get? GMsg (w.alloc (.cells (GMsg.enc x).toArray 73)) ⟨n, 0, none⟩ = some x := by
  subst hn; exact get?_new 73 x
theorem pl73 : ((Tryz.prog.fieldsOf 73).toList.mapM fun f => (Tryz.prog.info? f.type).map fun i => (f.offset, i.size)) = some [(0, 1), (1, 1), (2, 1), (3, 37), (40, 38), (78, 38), (116, 38), (154, 1), (155, 1), (156, 1), (157, 6), (163, 11), (174, 38), (212, 1), (213, 35), (248, 34), (282, 4), (286, 1), (287, 8)] := by kernel_rfl
theorem fs73_0 (x : GMsg) (v : Int) (rest : List (Nat × Value)) : Instr.fill (fun i => ([(0, 1), (1, 1), (2, 1), (3, 37), (40, 38), (78, 38), (116, 38), (154, 1), (155, 1), (156, 1), (157, 6), (163, 11), (174, 38), (212, 1), (213, 35), (248, 34), (282, 4), (286, 1), (287, 8)] : List (Nat × Nat))[i]?) x.enc.toArray ((0, (.int .i64 v)) :: rest) = Instr.fill (fun i => ([(0, 1), (1, 1), (2, 1), (3, 37), (40, 38), (78, 38), (116, 38), (154, 1), (155, 1), (156, 1), (157, 6), (163, 11), (174, 38), (212, 1), (213, 35), (248, 34), (282, 4), (286, 1), (287, 8)] : List (Nat × Nat))[i]?) ({ x with kind := v } : GMsg).enc.toArray rest := by
  have h := fill_seg [(0, 1), (1, 1), (2, 1), (3, 37), (40, 38), (78, 38), (116, 38), (154, 1), (155, 1), (156, 1), (157, 6), (163, 11), (174, 38), (212, 1), (213, 35), (248, 34), (282, 4), (286, 1), (287, 8)] 0 0 1 rfl (([] : List Value)) ([(.int .i64 x.kind)]) ([(.int .i64 x.from_)] ++ ([(.int .i64 x.to)] ++ (x.commit.enc ++ (x.stamp.enc ++ (x.cert.enc ++ (x.ack.enc ++ ([(.int .i64 x.epoch)] ++ ([(.int .i64 x.round)] ++ ([(.int .u64 x.time)] ++ (x.promise.enc ++ (x.proposal.enc ++ (x.vote.enc ++ ([(.int .i64 x.index)] ++ (x.entry.enc ++ (x.opening.enc ++ (x.deny.enc ++ ([(.string x.reply)] ++ (x.decided.enc ++ (([] : List Value)))))))))))))))))))) ([(.int .i64 v)]) (.int .i64 v) rest (rfl) (by simp [GAck.enc_len, GCert.enc_len, GCommit.enc_len, GDecided.enc_len, GDeny.enc_len, GEntry.enc_len, GOpening.enc_len, GPromise.enc_len, GProposal.enc_len, GStamp.enc_len, GVote.enc_len]) (by simp [GAck.enc_len, GCert.enc_len, GCommit.enc_len, GDecided.enc_len, GDeny.enc_len, GEntry.enc_len, GOpening.enc_len, GPromise.enc_len, GProposal.enc_len, GStamp.enc_len, GVote.enc_len]) (by simp [GAck.enc_len, GCert.enc_len, GCommit.enc_len, GDecided.enc_len, GDeny.enc_len, GEntry.enc_len, GOpening.enc_len, GPromise.enc_len, GProposal.enc_len, GStamp.enc_len, GVote.enc_len])
  have e1 : x.enc = (([] : List Value)) ++ ([(.int .i64 x.kind)] ++ ([(.int .i64 x.from_)] ++ ([(.int .i64 x.to)] ++ (x.commit.enc ++ (x.stamp.enc ++ (x.cert.enc ++ (x.ack.enc ++ ([(.int .i64 x.epoch)] ++ ([(.int .i64 x.round)] ++ ([(.int .u64 x.time)] ++ (x.promise.enc ++ (x.proposal.enc ++ (x.vote.enc ++ ([(.int .i64 x.index)] ++ (x.entry.enc ++ (x.opening.enc ++ (x.deny.enc ++ ([(.string x.reply)] ++ (x.decided.enc ++ (([] : List Value))))))))))))))))))))) := by simp only [GMsg.enc, List.nil_append, List.append_assoc, List.append_nil]
  have e2 : ({ x with kind := v } : GMsg).enc = (([] : List Value)) ++ ([(.int .i64 v)] ++ ([(.int .i64 x.from_)] ++ ([(.int .i64 x.to)] ++ (x.commit.enc ++ (x.stamp.enc ++ (x.cert.enc ++ (x.ack.enc ++ ([(.int .i64 x.epoch)] ++ ([(.int .i64 x.round)] ++ ([(.int .u64 x.time)] ++ (x.promise.enc ++ (x.proposal.enc ++ (x.vote.enc ++ ([(.int .i64 x.index)] ++ (x.entry.enc ++ (x.opening.enc ++ (x.deny.enc ++ ([(.string x.reply)] ++ (x.decided.enc ++ (([] : List Value))))))))))))))))))))) := by simp only [GMsg.enc, List.nil_append, List.append_assoc, List.append_nil]
  rw [e1, e2]; exact h
theorem fs73_1 (x : GMsg) (v : Int) (rest : List (Nat × Value)) : Instr.fill (fun i => ([(0, 1), (1, 1), (2, 1), (3, 37), (40, 38), (78, 38), (116, 38), (154, 1), (155, 1), (156, 1), (157, 6), (163, 11), (174, 38), (212, 1), (213, 35), (248, 34), (282, 4), (286, 1), (287, 8)] : List (Nat × Nat))[i]?) x.enc.toArray ((1, (.int .i64 v)) :: rest) = Instr.fill (fun i => ([(0, 1), (1, 1), (2, 1), (3, 37), (40, 38), (78, 38), (116, 38), (154, 1), (155, 1), (156, 1), (157, 6), (163, 11), (174, 38), (212, 1), (213, 35), (248, 34), (282, 4), (286, 1), (287, 8)] : List (Nat × Nat))[i]?) ({ x with from_ := v } : GMsg).enc.toArray rest := by
  have h := fill_seg [(0, 1), (1, 1), (2, 1), (3, 37), (40, 38), (78, 38), (116, 38), (154, 1), (155, 1), (156, 1), (157, 6), (163, 11), (174, 38), (212, 1), (213, 35), (248, 34), (282, 4), (286, 1), (287, 8)] 1 1 1 rfl (([] : List Value) ++ ([(.int .i64 x.kind)])) ([(.int .i64 x.from_)]) ([(.int .i64 x.to)] ++ (x.commit.enc ++ (x.stamp.enc ++ (x.cert.enc ++ (x.ack.enc ++ ([(.int .i64 x.epoch)] ++ ([(.int .i64 x.round)] ++ ([(.int .u64 x.time)] ++ (x.promise.enc ++ (x.proposal.enc ++ (x.vote.enc ++ ([(.int .i64 x.index)] ++ (x.entry.enc ++ (x.opening.enc ++ (x.deny.enc ++ ([(.string x.reply)] ++ (x.decided.enc ++ (([] : List Value))))))))))))))))))) ([(.int .i64 v)]) (.int .i64 v) rest (rfl) (by simp [GAck.enc_len, GCert.enc_len, GCommit.enc_len, GDecided.enc_len, GDeny.enc_len, GEntry.enc_len, GOpening.enc_len, GPromise.enc_len, GProposal.enc_len, GStamp.enc_len, GVote.enc_len]) (by simp [GAck.enc_len, GCert.enc_len, GCommit.enc_len, GDecided.enc_len, GDeny.enc_len, GEntry.enc_len, GOpening.enc_len, GPromise.enc_len, GProposal.enc_len, GStamp.enc_len, GVote.enc_len]) (by simp [GAck.enc_len, GCert.enc_len, GCommit.enc_len, GDecided.enc_len, GDeny.enc_len, GEntry.enc_len, GOpening.enc_len, GPromise.enc_len, GProposal.enc_len, GStamp.enc_len, GVote.enc_len])
  have e1 : x.enc = (([] : List Value) ++ ([(.int .i64 x.kind)])) ++ ([(.int .i64 x.from_)] ++ ([(.int .i64 x.to)] ++ (x.commit.enc ++ (x.stamp.enc ++ (x.cert.enc ++ (x.ack.enc ++ ([(.int .i64 x.epoch)] ++ ([(.int .i64 x.round)] ++ ([(.int .u64 x.time)] ++ (x.promise.enc ++ (x.proposal.enc ++ (x.vote.enc ++ ([(.int .i64 x.index)] ++ (x.entry.enc ++ (x.opening.enc ++ (x.deny.enc ++ ([(.string x.reply)] ++ (x.decided.enc ++ (([] : List Value)))))))))))))))))))) := by simp only [GMsg.enc, List.nil_append, List.append_assoc, List.append_nil]
  have e2 : ({ x with from_ := v } : GMsg).enc = (([] : List Value) ++ ([(.int .i64 x.kind)])) ++ ([(.int .i64 v)] ++ ([(.int .i64 x.to)] ++ (x.commit.enc ++ (x.stamp.enc ++ (x.cert.enc ++ (x.ack.enc ++ ([(.int .i64 x.epoch)] ++ ([(.int .i64 x.round)] ++ ([(.int .u64 x.time)] ++ (x.promise.enc ++ (x.proposal.enc ++ (x.vote.enc ++ ([(.int .i64 x.index)] ++ (x.entry.enc ++ (x.opening.enc ++ (x.deny.enc ++ ([(.string x.reply)] ++ (x.decided.enc ++ (([] : List Value)))))))))))))))))))) := by simp only [GMsg.enc, List.nil_append, List.append_assoc, List.append_nil]
  rw [e1, e2]; exact h
theorem fs73_2 (x : GMsg) (v : Int) (rest : List (Nat × Value)) : Instr.fill (fun i => ([(0, 1), (1, 1), (2, 1), (3, 37), (40, 38), (78, 38), (116, 38), (154, 1), (155, 1), (156, 1), (157, 6), (163, 11), (174, 38), (212, 1), (213, 35), (248, 34), (282, 4), (286, 1), (287, 8)] : List (Nat × Nat))[i]?) x.enc.toArray ((2, (.int .i64 v)) :: rest) = Instr.fill (fun i => ([(0, 1), (1, 1), (2, 1), (3, 37), (40, 38), (78, 38), (116, 38), (154, 1), (155, 1), (156, 1), (157, 6), (163, 11), (174, 38), (212, 1), (213, 35), (248, 34), (282, 4), (286, 1), (287, 8)] : List (Nat × Nat))[i]?) ({ x with to := v } : GMsg).enc.toArray rest := by
  have h := fill_seg [(0, 1), (1, 1), (2, 1), (3, 37), (40, 38), (78, 38), (116, 38), (154, 1), (155, 1), (156, 1), (157, 6), (163, 11), (174, 38), (212, 1), (213, 35), (248, 34), (282, 4), (286, 1), (287, 8)] 2 2 1 rfl (([] : List Value) ++ ([(.int .i64 x.kind)] ++ ([(.int .i64 x.from_)]))) ([(.int .i64 x.to)]) (x.commit.enc ++ (x.stamp.enc ++ (x.cert.enc ++ (x.ack.enc ++ ([(.int .i64 x.epoch)] ++ ([(.int .i64 x.round)] ++ ([(.int .u64 x.time)] ++ (x.promise.enc ++ (x.proposal.enc ++ (x.vote.enc ++ ([(.int .i64 x.index)] ++ (x.entry.enc ++ (x.opening.enc ++ (x.deny.enc ++ ([(.string x.reply)] ++ (x.decided.enc ++ (([] : List Value)))))))))))))))))) ([(.int .i64 v)]) (.int .i64 v) rest (rfl) (by simp [GAck.enc_len, GCert.enc_len, GCommit.enc_len, GDecided.enc_len, GDeny.enc_len, GEntry.enc_len, GOpening.enc_len, GPromise.enc_len, GProposal.enc_len, GStamp.enc_len, GVote.enc_len]) (by simp [GAck.enc_len, GCert.enc_len, GCommit.enc_len, GDecided.enc_len, GDeny.enc_len, GEntry.enc_len, GOpening.enc_len, GPromise.enc_len, GProposal.enc_len, GStamp.enc_len, GVote.enc_len]) (by simp [GAck.enc_len, GCert.enc_len, GCommit.enc_len, GDecided.enc_len, GDeny.enc_len, GEntry.enc_len, GOpening.enc_len, GPromise.enc_len, GProposal.enc_len, GStamp.enc_len, GVote.enc_len])
  have e1 : x.enc = (([] : List Value) ++ ([(.int .i64 x.kind)] ++ ([(.int .i64 x.from_)]))) ++ ([(.int .i64 x.to)] ++ (x.commit.enc ++ (x.stamp.enc ++ (x.cert.enc ++ (x.ack.enc ++ ([(.int .i64 x.epoch)] ++ ([(.int .i64 x.round)] ++ ([(.int .u64 x.time)] ++ (x.promise.enc ++ (x.proposal.enc ++ (x.vote.enc ++ ([(.int .i64 x.index)] ++ (x.entry.enc ++ (x.opening.enc ++ (x.deny.enc ++ ([(.string x.reply)] ++ (x.decided.enc ++ (([] : List Value))))))))))))))))))) := by simp only [GMsg.enc, List.nil_append, List.append_assoc, List.append_nil]
  have e2 : ({ x with to := v } : GMsg).enc = (([] : List Value) ++ ([(.int .i64 x.kind)] ++ ([(.int .i64 x.from_)]))) ++ ([(.int .i64 v)] ++ (x.commit.enc ++ (x.stamp.enc ++ (x.cert.enc ++ (x.ack.enc ++ ([(.int .i64 x.epoch)] ++ ([(.int .i64 x.round)] ++ ([(.int .u64 x.time)] ++ (x.promise.enc ++ (x.proposal.enc ++ (x.vote.enc ++ ([(.int .i64 x.index)] ++ (x.entry.enc ++ (x.opening.enc ++ (x.deny.enc ++ ([(.string x.reply)] ++ (x.decided.enc ++ (([] : List Value))))))))))))))))))) := by simp only [GMsg.enc, List.nil_append, List.append_assoc, List.append_nil]
  rw [e1, e2]; exact h
theorem fs73_4 (x : GMsg) (v : GStamp) (rest : List (Nat × Value)) : Instr.fill (fun i => ([(0, 1), (1, 1), (2, 1), (3, 37), (40, 38), (78, 38), (116, 38), (154, 1), (155, 1), (156, 1), (157, 6), (163, 11), (174, 38), (212, 1), (213, 35), (248, 34), (282, 4), (286, 1), (287, 8)] : List (Nat × Nat))[i]?) x.enc.toArray ((4, (v.val)) :: rest) = Instr.fill (fun i => ([(0, 1), (1, 1), (2, 1), (3, 37), (40, 38), (78, 38), (116, 38), (154, 1), (155, 1), (156, 1), (157, 6), (163, 11), (174, 38), (212, 1), (213, 35), (248, 34), (282, 4), (286, 1), (287, 8)] : List (Nat × Nat))[i]?) ({ x with stamp := v } : GMsg).enc.toArray rest := by
  have h := fill_seg [(0, 1), (1, 1), (2, 1), (3, 37), (40, 38), (78, 38), (116, 38), (154, 1), (155, 1), (156, 1), (157, 6), (163, 11), (174, 38), (212, 1), (213, 35), (248, 34), (282, 4), (286, 1), (287, 8)] 4 40 38 rfl (([] : List Value) ++ ([(.int .i64 x.kind)] ++ ([(.int .i64 x.from_)] ++ ([(.int .i64 x.to)] ++ (x.commit.enc))))) (x.stamp.enc) (x.cert.enc ++ (x.ack.enc ++ ([(.int .i64 x.epoch)] ++ ([(.int .i64 x.round)] ++ ([(.int .u64 x.time)] ++ (x.promise.enc ++ (x.proposal.enc ++ (x.vote.enc ++ ([(.int .i64 x.index)] ++ (x.entry.enc ++ (x.opening.enc ++ (x.deny.enc ++ ([(.string x.reply)] ++ (x.decided.enc ++ (([] : List Value)))))))))))))))) (v.enc) (v.val) rest (by rw [GStamp.val_eq]; rfl) (by simp [GAck.enc_len, GCert.enc_len, GCommit.enc_len, GDecided.enc_len, GDeny.enc_len, GEntry.enc_len, GOpening.enc_len, GPromise.enc_len, GProposal.enc_len, GStamp.enc_len, GVote.enc_len]) (by simp [GAck.enc_len, GCert.enc_len, GCommit.enc_len, GDecided.enc_len, GDeny.enc_len, GEntry.enc_len, GOpening.enc_len, GPromise.enc_len, GProposal.enc_len, GStamp.enc_len, GVote.enc_len]) (by simp [GAck.enc_len, GCert.enc_len, GCommit.enc_len, GDecided.enc_len, GDeny.enc_len, GEntry.enc_len, GOpening.enc_len, GPromise.enc_len, GProposal.enc_len, GStamp.enc_len, GVote.enc_len])
  have e1 : x.enc = (([] : List Value) ++ ([(.int .i64 x.kind)] ++ ([(.int .i64 x.from_)] ++ ([(.int .i64 x.to)] ++ (x.commit.enc))))) ++ (x.stamp.enc ++ (x.cert.enc ++ (x.ack.enc ++ ([(.int .i64 x.epoch)] ++ ([(.int .i64 x.round)] ++ ([(.int .u64 x.time)] ++ (x.promise.enc ++ (x.proposal.enc ++ (x.vote.enc ++ ([(.int .i64 x.index)] ++ (x.entry.enc ++ (x.opening.enc ++ (x.deny.enc ++ ([(.string x.reply)] ++ (x.decided.enc ++ (([] : List Value))))))))))))))))) := by simp only [GMsg.enc, List.nil_append, List.append_assoc, List.append_nil]
  have e2 : ({ x with stamp := v } : GMsg).enc = (([] : List Value) ++ ([(.int .i64 x.kind)] ++ ([(.int .i64 x.from_)] ++ ([(.int .i64 x.to)] ++ (x.commit.enc))))) ++ (v.enc ++ (x.cert.enc ++ (x.ack.enc ++ ([(.int .i64 x.epoch)] ++ ([(.int .i64 x.round)] ++ ([(.int .u64 x.time)] ++ (x.promise.enc ++ (x.proposal.enc ++ (x.vote.enc ++ ([(.int .i64 x.index)] ++ (x.entry.enc ++ (x.opening.enc ++ (x.deny.enc ++ ([(.string x.reply)] ++ (x.decided.enc ++ (([] : List Value))))))))))))))))) := by simp only [GMsg.enc, List.nil_append, List.append_assoc, List.append_nil]
  rw [e1, e2]; exact h
theorem fs73_6 (x : GMsg) (v : GAck) (rest : List (Nat × Value)) : Instr.fill (fun i => ([(0, 1), (1, 1), (2, 1), (3, 37), (40, 38), (78, 38), (116, 38), (154, 1), (155, 1), (156, 1), (157, 6), (163, 11), (174, 38), (212, 1), (213, 35), (248, 34), (282, 4), (286, 1), (287, 8)] : List (Nat × Nat))[i]?) x.enc.toArray ((6, (v.val)) :: rest) = Instr.fill (fun i => ([(0, 1), (1, 1), (2, 1), (3, 37), (40, 38), (78, 38), (116, 38), (154, 1), (155, 1), (156, 1), (157, 6), (163, 11), (174, 38), (212, 1), (213, 35), (248, 34), (282, 4), (286, 1), (287, 8)] : List (Nat × Nat))[i]?) ({ x with ack := v } : GMsg).enc.toArray rest := by
  have h := fill_seg [(0, 1), (1, 1), (2, 1), (3, 37), (40, 38), (78, 38), (116, 38), (154, 1), (155, 1), (156, 1), (157, 6), (163, 11), (174, 38), (212, 1), (213, 35), (248, 34), (282, 4), (286, 1), (287, 8)] 6 116 38 rfl (([] : List Value) ++ ([(.int .i64 x.kind)] ++ ([(.int .i64 x.from_)] ++ ([(.int .i64 x.to)] ++ (x.commit.enc ++ (x.stamp.enc ++ (x.cert.enc))))))) (x.ack.enc) ([(.int .i64 x.epoch)] ++ ([(.int .i64 x.round)] ++ ([(.int .u64 x.time)] ++ (x.promise.enc ++ (x.proposal.enc ++ (x.vote.enc ++ ([(.int .i64 x.index)] ++ (x.entry.enc ++ (x.opening.enc ++ (x.deny.enc ++ ([(.string x.reply)] ++ (x.decided.enc ++ (([] : List Value)))))))))))))) (v.enc) (v.val) rest (by rw [GAck.val_eq]; rfl) (by simp [GAck.enc_len, GCert.enc_len, GCommit.enc_len, GDecided.enc_len, GDeny.enc_len, GEntry.enc_len, GOpening.enc_len, GPromise.enc_len, GProposal.enc_len, GStamp.enc_len, GVote.enc_len]) (by simp [GAck.enc_len, GCert.enc_len, GCommit.enc_len, GDecided.enc_len, GDeny.enc_len, GEntry.enc_len, GOpening.enc_len, GPromise.enc_len, GProposal.enc_len, GStamp.enc_len, GVote.enc_len]) (by simp [GAck.enc_len, GCert.enc_len, GCommit.enc_len, GDecided.enc_len, GDeny.enc_len, GEntry.enc_len, GOpening.enc_len, GPromise.enc_len, GProposal.enc_len, GStamp.enc_len, GVote.enc_len])
  have e1 : x.enc = (([] : List Value) ++ ([(.int .i64 x.kind)] ++ ([(.int .i64 x.from_)] ++ ([(.int .i64 x.to)] ++ (x.commit.enc ++ (x.stamp.enc ++ (x.cert.enc))))))) ++ (x.ack.enc ++ ([(.int .i64 x.epoch)] ++ ([(.int .i64 x.round)] ++ ([(.int .u64 x.time)] ++ (x.promise.enc ++ (x.proposal.enc ++ (x.vote.enc ++ ([(.int .i64 x.index)] ++ (x.entry.enc ++ (x.opening.enc ++ (x.deny.enc ++ ([(.string x.reply)] ++ (x.decided.enc ++ (([] : List Value))))))))))))))) := by simp only [GMsg.enc, List.nil_append, List.append_assoc, List.append_nil]
  have e2 : ({ x with ack := v } : GMsg).enc = (([] : List Value) ++ ([(.int .i64 x.kind)] ++ ([(.int .i64 x.from_)] ++ ([(.int .i64 x.to)] ++ (x.commit.enc ++ (x.stamp.enc ++ (x.cert.enc))))))) ++ (v.enc ++ ([(.int .i64 x.epoch)] ++ ([(.int .i64 x.round)] ++ ([(.int .u64 x.time)] ++ (x.promise.enc ++ (x.proposal.enc ++ (x.vote.enc ++ ([(.int .i64 x.index)] ++ (x.entry.enc ++ (x.opening.enc ++ (x.deny.enc ++ ([(.string x.reply)] ++ (x.decided.enc ++ (([] : List Value))))))))))))))) := by simp only [GMsg.enc, List.nil_append, List.append_assoc, List.append_nil]
  rw [e1, e2]; exact h
theorem fs73_7 (x : GMsg) (v : Int) (rest : List (Nat × Value)) : Instr.fill (fun i => ([(0, 1), (1, 1), (2, 1), (3, 37), (40, 38), (78, 38), (116, 38), (154, 1), (155, 1), (156, 1), (157, 6), (163, 11), (174, 38), (212, 1), (213, 35), (248, 34), (282, 4), (286, 1), (287, 8)] : List (Nat × Nat))[i]?) x.enc.toArray ((7, (.int .i64 v)) :: rest) = Instr.fill (fun i => ([(0, 1), (1, 1), (2, 1), (3, 37), (40, 38), (78, 38), (116, 38), (154, 1), (155, 1), (156, 1), (157, 6), (163, 11), (174, 38), (212, 1), (213, 35), (248, 34), (282, 4), (286, 1), (287, 8)] : List (Nat × Nat))[i]?) ({ x with epoch := v } : GMsg).enc.toArray rest := by
  have h := fill_seg [(0, 1), (1, 1), (2, 1), (3, 37), (40, 38), (78, 38), (116, 38), (154, 1), (155, 1), (156, 1), (157, 6), (163, 11), (174, 38), (212, 1), (213, 35), (248, 34), (282, 4), (286, 1), (287, 8)] 7 154 1 rfl (([] : List Value) ++ ([(.int .i64 x.kind)] ++ ([(.int .i64 x.from_)] ++ ([(.int .i64 x.to)] ++ (x.commit.enc ++ (x.stamp.enc ++ (x.cert.enc ++ (x.ack.enc)))))))) ([(.int .i64 x.epoch)]) ([(.int .i64 x.round)] ++ ([(.int .u64 x.time)] ++ (x.promise.enc ++ (x.proposal.enc ++ (x.vote.enc ++ ([(.int .i64 x.index)] ++ (x.entry.enc ++ (x.opening.enc ++ (x.deny.enc ++ ([(.string x.reply)] ++ (x.decided.enc ++ (([] : List Value))))))))))))) ([(.int .i64 v)]) (.int .i64 v) rest (rfl) (by simp [GAck.enc_len, GCert.enc_len, GCommit.enc_len, GDecided.enc_len, GDeny.enc_len, GEntry.enc_len, GOpening.enc_len, GPromise.enc_len, GProposal.enc_len, GStamp.enc_len, GVote.enc_len]) (by simp [GAck.enc_len, GCert.enc_len, GCommit.enc_len, GDecided.enc_len, GDeny.enc_len, GEntry.enc_len, GOpening.enc_len, GPromise.enc_len, GProposal.enc_len, GStamp.enc_len, GVote.enc_len]) (by simp [GAck.enc_len, GCert.enc_len, GCommit.enc_len, GDecided.enc_len, GDeny.enc_len, GEntry.enc_len, GOpening.enc_len, GPromise.enc_len, GProposal.enc_len, GStamp.enc_len, GVote.enc_len])
  have e1 : x.enc = (([] : List Value) ++ ([(.int .i64 x.kind)] ++ ([(.int .i64 x.from_)] ++ ([(.int .i64 x.to)] ++ (x.commit.enc ++ (x.stamp.enc ++ (x.cert.enc ++ (x.ack.enc)))))))) ++ ([(.int .i64 x.epoch)] ++ ([(.int .i64 x.round)] ++ ([(.int .u64 x.time)] ++ (x.promise.enc ++ (x.proposal.enc ++ (x.vote.enc ++ ([(.int .i64 x.index)] ++ (x.entry.enc ++ (x.opening.enc ++ (x.deny.enc ++ ([(.string x.reply)] ++ (x.decided.enc ++ (([] : List Value)))))))))))))) := by simp only [GMsg.enc, List.nil_append, List.append_assoc, List.append_nil]
  have e2 : ({ x with epoch := v } : GMsg).enc = (([] : List Value) ++ ([(.int .i64 x.kind)] ++ ([(.int .i64 x.from_)] ++ ([(.int .i64 x.to)] ++ (x.commit.enc ++ (x.stamp.enc ++ (x.cert.enc ++ (x.ack.enc)))))))) ++ ([(.int .i64 v)] ++ ([(.int .i64 x.round)] ++ ([(.int .u64 x.time)] ++ (x.promise.enc ++ (x.proposal.enc ++ (x.vote.enc ++ ([(.int .i64 x.index)] ++ (x.entry.enc ++ (x.opening.enc ++ (x.deny.enc ++ ([(.string x.reply)] ++ (x.decided.enc ++ (([] : List Value)))))))))))))) := by simp only [GMsg.enc, List.nil_append, List.append_assoc, List.append_nil]
  rw [e1, e2]; exact h
theorem fs73_8 (x : GMsg) (v : Int) (rest : List (Nat × Value)) : Instr.fill (fun i => ([(0, 1), (1, 1), (2, 1), (3, 37), (40, 38), (78, 38), (116, 38), (154, 1), (155, 1), (156, 1), (157, 6), (163, 11), (174, 38), (212, 1), (213, 35), (248, 34), (282, 4), (286, 1), (287, 8)] : List (Nat × Nat))[i]?) x.enc.toArray ((8, (.int .i64 v)) :: rest) = Instr.fill (fun i => ([(0, 1), (1, 1), (2, 1), (3, 37), (40, 38), (78, 38), (116, 38), (154, 1), (155, 1), (156, 1), (157, 6), (163, 11), (174, 38), (212, 1), (213, 35), (248, 34), (282, 4), (286, 1), (287, 8)] : List (Nat × Nat))[i]?) ({ x with round := v } : GMsg).enc.toArray rest := by
  have h := fill_seg [(0, 1), (1, 1), (2, 1), (3, 37), (40, 38), (78, 38), (116, 38), (154, 1), (155, 1), (156, 1), (157, 6), (163, 11), (174, 38), (212, 1), (213, 35), (248, 34), (282, 4), (286, 1), (287, 8)] 8 155 1 rfl (([] : List Value) ++ ([(.int .i64 x.kind)] ++ ([(.int .i64 x.from_)] ++ ([(.int .i64 x.to)] ++ (x.commit.enc ++ (x.stamp.enc ++ (x.cert.enc ++ (x.ack.enc ++ ([(.int .i64 x.epoch)]))))))))) ([(.int .i64 x.round)]) ([(.int .u64 x.time)] ++ (x.promise.enc ++ (x.proposal.enc ++ (x.vote.enc ++ ([(.int .i64 x.index)] ++ (x.entry.enc ++ (x.opening.enc ++ (x.deny.enc ++ ([(.string x.reply)] ++ (x.decided.enc ++ (([] : List Value)))))))))))) ([(.int .i64 v)]) (.int .i64 v) rest (rfl) (by simp [GAck.enc_len, GCert.enc_len, GCommit.enc_len, GDecided.enc_len, GDeny.enc_len, GEntry.enc_len, GOpening.enc_len, GPromise.enc_len, GProposal.enc_len, GStamp.enc_len, GVote.enc_len]) (by simp [GAck.enc_len, GCert.enc_len, GCommit.enc_len, GDecided.enc_len, GDeny.enc_len, GEntry.enc_len, GOpening.enc_len, GPromise.enc_len, GProposal.enc_len, GStamp.enc_len, GVote.enc_len]) (by simp [GAck.enc_len, GCert.enc_len, GCommit.enc_len, GDecided.enc_len, GDeny.enc_len, GEntry.enc_len, GOpening.enc_len, GPromise.enc_len, GProposal.enc_len, GStamp.enc_len, GVote.enc_len])
  have e1 : x.enc = (([] : List Value) ++ ([(.int .i64 x.kind)] ++ ([(.int .i64 x.from_)] ++ ([(.int .i64 x.to)] ++ (x.commit.enc ++ (x.stamp.enc ++ (x.cert.enc ++ (x.ack.enc ++ ([(.int .i64 x.epoch)]))))))))) ++ ([(.int .i64 x.round)] ++ ([(.int .u64 x.time)] ++ (x.promise.enc ++ (x.proposal.enc ++ (x.vote.enc ++ ([(.int .i64 x.index)] ++ (x.entry.enc ++ (x.opening.enc ++ (x.deny.enc ++ ([(.string x.reply)] ++ (x.decided.enc ++ (([] : List Value))))))))))))) := by simp only [GMsg.enc, List.nil_append, List.append_assoc, List.append_nil]
  have e2 : ({ x with round := v } : GMsg).enc = (([] : List Value) ++ ([(.int .i64 x.kind)] ++ ([(.int .i64 x.from_)] ++ ([(.int .i64 x.to)] ++ (x.commit.enc ++ (x.stamp.enc ++ (x.cert.enc ++ (x.ack.enc ++ ([(.int .i64 x.epoch)]))))))))) ++ ([(.int .i64 v)] ++ ([(.int .u64 x.time)] ++ (x.promise.enc ++ (x.proposal.enc ++ (x.vote.enc ++ ([(.int .i64 x.index)] ++ (x.entry.enc ++ (x.opening.enc ++ (x.deny.enc ++ ([(.string x.reply)] ++ (x.decided.enc ++ (([] : List Value))))))))))))) := by simp only [GMsg.enc, List.nil_append, List.append_assoc, List.append_nil]
  rw [e1, e2]; exact h
theorem fs73_9 (x : GMsg) (v : Int) (rest : List (Nat × Value)) : Instr.fill (fun i => ([(0, 1), (1, 1), (2, 1), (3, 37), (40, 38), (78, 38), (116, 38), (154, 1), (155, 1), (156, 1), (157, 6), (163, 11), (174, 38), (212, 1), (213, 35), (248, 34), (282, 4), (286, 1), (287, 8)] : List (Nat × Nat))[i]?) x.enc.toArray ((9, (.int .u64 v)) :: rest) = Instr.fill (fun i => ([(0, 1), (1, 1), (2, 1), (3, 37), (40, 38), (78, 38), (116, 38), (154, 1), (155, 1), (156, 1), (157, 6), (163, 11), (174, 38), (212, 1), (213, 35), (248, 34), (282, 4), (286, 1), (287, 8)] : List (Nat × Nat))[i]?) ({ x with time := v } : GMsg).enc.toArray rest := by
  have h := fill_seg [(0, 1), (1, 1), (2, 1), (3, 37), (40, 38), (78, 38), (116, 38), (154, 1), (155, 1), (156, 1), (157, 6), (163, 11), (174, 38), (212, 1), (213, 35), (248, 34), (282, 4), (286, 1), (287, 8)] 9 156 1 rfl (([] : List Value) ++ ([(.int .i64 x.kind)] ++ ([(.int .i64 x.from_)] ++ ([(.int .i64 x.to)] ++ (x.commit.enc ++ (x.stamp.enc ++ (x.cert.enc ++ (x.ack.enc ++ ([(.int .i64 x.epoch)] ++ ([(.int .i64 x.round)])))))))))) ([(.int .u64 x.time)]) (x.promise.enc ++ (x.proposal.enc ++ (x.vote.enc ++ ([(.int .i64 x.index)] ++ (x.entry.enc ++ (x.opening.enc ++ (x.deny.enc ++ ([(.string x.reply)] ++ (x.decided.enc ++ (([] : List Value))))))))))) ([(.int .u64 v)]) (.int .u64 v) rest (rfl) (by simp [GAck.enc_len, GCert.enc_len, GCommit.enc_len, GDecided.enc_len, GDeny.enc_len, GEntry.enc_len, GOpening.enc_len, GPromise.enc_len, GProposal.enc_len, GStamp.enc_len, GVote.enc_len]) (by simp [GAck.enc_len, GCert.enc_len, GCommit.enc_len, GDecided.enc_len, GDeny.enc_len, GEntry.enc_len, GOpening.enc_len, GPromise.enc_len, GProposal.enc_len, GStamp.enc_len, GVote.enc_len]) (by simp [GAck.enc_len, GCert.enc_len, GCommit.enc_len, GDecided.enc_len, GDeny.enc_len, GEntry.enc_len, GOpening.enc_len, GPromise.enc_len, GProposal.enc_len, GStamp.enc_len, GVote.enc_len])
  have e1 : x.enc = (([] : List Value) ++ ([(.int .i64 x.kind)] ++ ([(.int .i64 x.from_)] ++ ([(.int .i64 x.to)] ++ (x.commit.enc ++ (x.stamp.enc ++ (x.cert.enc ++ (x.ack.enc ++ ([(.int .i64 x.epoch)] ++ ([(.int .i64 x.round)])))))))))) ++ ([(.int .u64 x.time)] ++ (x.promise.enc ++ (x.proposal.enc ++ (x.vote.enc ++ ([(.int .i64 x.index)] ++ (x.entry.enc ++ (x.opening.enc ++ (x.deny.enc ++ ([(.string x.reply)] ++ (x.decided.enc ++ (([] : List Value)))))))))))) := by simp only [GMsg.enc, List.nil_append, List.append_assoc, List.append_nil]
  have e2 : ({ x with time := v } : GMsg).enc = (([] : List Value) ++ ([(.int .i64 x.kind)] ++ ([(.int .i64 x.from_)] ++ ([(.int .i64 x.to)] ++ (x.commit.enc ++ (x.stamp.enc ++ (x.cert.enc ++ (x.ack.enc ++ ([(.int .i64 x.epoch)] ++ ([(.int .i64 x.round)])))))))))) ++ ([(.int .u64 v)] ++ (x.promise.enc ++ (x.proposal.enc ++ (x.vote.enc ++ ([(.int .i64 x.index)] ++ (x.entry.enc ++ (x.opening.enc ++ (x.deny.enc ++ ([(.string x.reply)] ++ (x.decided.enc ++ (([] : List Value)))))))))))) := by simp only [GMsg.enc, List.nil_append, List.append_assoc, List.append_nil]
  rw [e1, e2]; exact h
theorem fs73_10 (x : GMsg) (v : GPromise) (rest : List (Nat × Value)) : Instr.fill (fun i => ([(0, 1), (1, 1), (2, 1), (3, 37), (40, 38), (78, 38), (116, 38), (154, 1), (155, 1), (156, 1), (157, 6), (163, 11), (174, 38), (212, 1), (213, 35), (248, 34), (282, 4), (286, 1), (287, 8)] : List (Nat × Nat))[i]?) x.enc.toArray ((10, (v.val)) :: rest) = Instr.fill (fun i => ([(0, 1), (1, 1), (2, 1), (3, 37), (40, 38), (78, 38), (116, 38), (154, 1), (155, 1), (156, 1), (157, 6), (163, 11), (174, 38), (212, 1), (213, 35), (248, 34), (282, 4), (286, 1), (287, 8)] : List (Nat × Nat))[i]?) ({ x with promise := v } : GMsg).enc.toArray rest := by
  have h := fill_seg [(0, 1), (1, 1), (2, 1), (3, 37), (40, 38), (78, 38), (116, 38), (154, 1), (155, 1), (156, 1), (157, 6), (163, 11), (174, 38), (212, 1), (213, 35), (248, 34), (282, 4), (286, 1), (287, 8)] 10 157 6 rfl (([] : List Value) ++ ([(.int .i64 x.kind)] ++ ([(.int .i64 x.from_)] ++ ([(.int .i64 x.to)] ++ (x.commit.enc ++ (x.stamp.enc ++ (x.cert.enc ++ (x.ack.enc ++ ([(.int .i64 x.epoch)] ++ ([(.int .i64 x.round)] ++ ([(.int .u64 x.time)]))))))))))) (x.promise.enc) (x.proposal.enc ++ (x.vote.enc ++ ([(.int .i64 x.index)] ++ (x.entry.enc ++ (x.opening.enc ++ (x.deny.enc ++ ([(.string x.reply)] ++ (x.decided.enc ++ (([] : List Value)))))))))) (v.enc) (v.val) rest (by rw [GPromise.val_eq]; rfl) (by simp [GAck.enc_len, GCert.enc_len, GCommit.enc_len, GDecided.enc_len, GDeny.enc_len, GEntry.enc_len, GOpening.enc_len, GPromise.enc_len, GProposal.enc_len, GStamp.enc_len, GVote.enc_len]) (by simp [GAck.enc_len, GCert.enc_len, GCommit.enc_len, GDecided.enc_len, GDeny.enc_len, GEntry.enc_len, GOpening.enc_len, GPromise.enc_len, GProposal.enc_len, GStamp.enc_len, GVote.enc_len]) (by simp [GAck.enc_len, GCert.enc_len, GCommit.enc_len, GDecided.enc_len, GDeny.enc_len, GEntry.enc_len, GOpening.enc_len, GPromise.enc_len, GProposal.enc_len, GStamp.enc_len, GVote.enc_len])
  have e1 : x.enc = (([] : List Value) ++ ([(.int .i64 x.kind)] ++ ([(.int .i64 x.from_)] ++ ([(.int .i64 x.to)] ++ (x.commit.enc ++ (x.stamp.enc ++ (x.cert.enc ++ (x.ack.enc ++ ([(.int .i64 x.epoch)] ++ ([(.int .i64 x.round)] ++ ([(.int .u64 x.time)]))))))))))) ++ (x.promise.enc ++ (x.proposal.enc ++ (x.vote.enc ++ ([(.int .i64 x.index)] ++ (x.entry.enc ++ (x.opening.enc ++ (x.deny.enc ++ ([(.string x.reply)] ++ (x.decided.enc ++ (([] : List Value))))))))))) := by simp only [GMsg.enc, List.nil_append, List.append_assoc, List.append_nil]
  have e2 : ({ x with promise := v } : GMsg).enc = (([] : List Value) ++ ([(.int .i64 x.kind)] ++ ([(.int .i64 x.from_)] ++ ([(.int .i64 x.to)] ++ (x.commit.enc ++ (x.stamp.enc ++ (x.cert.enc ++ (x.ack.enc ++ ([(.int .i64 x.epoch)] ++ ([(.int .i64 x.round)] ++ ([(.int .u64 x.time)]))))))))))) ++ (v.enc ++ (x.proposal.enc ++ (x.vote.enc ++ ([(.int .i64 x.index)] ++ (x.entry.enc ++ (x.opening.enc ++ (x.deny.enc ++ ([(.string x.reply)] ++ (x.decided.enc ++ (([] : List Value))))))))))) := by simp only [GMsg.enc, List.nil_append, List.append_assoc, List.append_nil]
  rw [e1, e2]; exact h
theorem fs73_11 (x : GMsg) (v : GProposal) (rest : List (Nat × Value)) : Instr.fill (fun i => ([(0, 1), (1, 1), (2, 1), (3, 37), (40, 38), (78, 38), (116, 38), (154, 1), (155, 1), (156, 1), (157, 6), (163, 11), (174, 38), (212, 1), (213, 35), (248, 34), (282, 4), (286, 1), (287, 8)] : List (Nat × Nat))[i]?) x.enc.toArray ((11, (v.val)) :: rest) = Instr.fill (fun i => ([(0, 1), (1, 1), (2, 1), (3, 37), (40, 38), (78, 38), (116, 38), (154, 1), (155, 1), (156, 1), (157, 6), (163, 11), (174, 38), (212, 1), (213, 35), (248, 34), (282, 4), (286, 1), (287, 8)] : List (Nat × Nat))[i]?) ({ x with proposal := v } : GMsg).enc.toArray rest := by
  have h := fill_seg [(0, 1), (1, 1), (2, 1), (3, 37), (40, 38), (78, 38), (116, 38), (154, 1), (155, 1), (156, 1), (157, 6), (163, 11), (174, 38), (212, 1), (213, 35), (248, 34), (282, 4), (286, 1), (287, 8)] 11 163 11 rfl (([] : List Value) ++ ([(.int .i64 x.kind)] ++ ([(.int .i64 x.from_)] ++ ([(.int .i64 x.to)] ++ (x.commit.enc ++ (x.stamp.enc ++ (x.cert.enc ++ (x.ack.enc ++ ([(.int .i64 x.epoch)] ++ ([(.int .i64 x.round)] ++ ([(.int .u64 x.time)] ++ (x.promise.enc)))))))))))) (x.proposal.enc) (x.vote.enc ++ ([(.int .i64 x.index)] ++ (x.entry.enc ++ (x.opening.enc ++ (x.deny.enc ++ ([(.string x.reply)] ++ (x.decided.enc ++ (([] : List Value))))))))) (v.enc) (v.val) rest (by rw [GProposal.val_eq]; rfl) (by simp [GAck.enc_len, GCert.enc_len, GCommit.enc_len, GDecided.enc_len, GDeny.enc_len, GEntry.enc_len, GOpening.enc_len, GPromise.enc_len, GProposal.enc_len, GStamp.enc_len, GVote.enc_len]) (by simp [GAck.enc_len, GCert.enc_len, GCommit.enc_len, GDecided.enc_len, GDeny.enc_len, GEntry.enc_len, GOpening.enc_len, GPromise.enc_len, GProposal.enc_len, GStamp.enc_len, GVote.enc_len]) (by simp [GAck.enc_len, GCert.enc_len, GCommit.enc_len, GDecided.enc_len, GDeny.enc_len, GEntry.enc_len, GOpening.enc_len, GPromise.enc_len, GProposal.enc_len, GStamp.enc_len, GVote.enc_len])
  have e1 : x.enc = (([] : List Value) ++ ([(.int .i64 x.kind)] ++ ([(.int .i64 x.from_)] ++ ([(.int .i64 x.to)] ++ (x.commit.enc ++ (x.stamp.enc ++ (x.cert.enc ++ (x.ack.enc ++ ([(.int .i64 x.epoch)] ++ ([(.int .i64 x.round)] ++ ([(.int .u64 x.time)] ++ (x.promise.enc)))))))))))) ++ (x.proposal.enc ++ (x.vote.enc ++ ([(.int .i64 x.index)] ++ (x.entry.enc ++ (x.opening.enc ++ (x.deny.enc ++ ([(.string x.reply)] ++ (x.decided.enc ++ (([] : List Value)))))))))) := by simp only [GMsg.enc, List.nil_append, List.append_assoc, List.append_nil]
  have e2 : ({ x with proposal := v } : GMsg).enc = (([] : List Value) ++ ([(.int .i64 x.kind)] ++ ([(.int .i64 x.from_)] ++ ([(.int .i64 x.to)] ++ (x.commit.enc ++ (x.stamp.enc ++ (x.cert.enc ++ (x.ack.enc ++ ([(.int .i64 x.epoch)] ++ ([(.int .i64 x.round)] ++ ([(.int .u64 x.time)] ++ (x.promise.enc)))))))))))) ++ (v.enc ++ (x.vote.enc ++ ([(.int .i64 x.index)] ++ (x.entry.enc ++ (x.opening.enc ++ (x.deny.enc ++ ([(.string x.reply)] ++ (x.decided.enc ++ (([] : List Value)))))))))) := by simp only [GMsg.enc, List.nil_append, List.append_assoc, List.append_nil]
  rw [e1, e2]; exact h
theorem fs73_12 (x : GMsg) (v : GVote) (rest : List (Nat × Value)) : Instr.fill (fun i => ([(0, 1), (1, 1), (2, 1), (3, 37), (40, 38), (78, 38), (116, 38), (154, 1), (155, 1), (156, 1), (157, 6), (163, 11), (174, 38), (212, 1), (213, 35), (248, 34), (282, 4), (286, 1), (287, 8)] : List (Nat × Nat))[i]?) x.enc.toArray ((12, (v.val)) :: rest) = Instr.fill (fun i => ([(0, 1), (1, 1), (2, 1), (3, 37), (40, 38), (78, 38), (116, 38), (154, 1), (155, 1), (156, 1), (157, 6), (163, 11), (174, 38), (212, 1), (213, 35), (248, 34), (282, 4), (286, 1), (287, 8)] : List (Nat × Nat))[i]?) ({ x with vote := v } : GMsg).enc.toArray rest := by
  have h := fill_seg [(0, 1), (1, 1), (2, 1), (3, 37), (40, 38), (78, 38), (116, 38), (154, 1), (155, 1), (156, 1), (157, 6), (163, 11), (174, 38), (212, 1), (213, 35), (248, 34), (282, 4), (286, 1), (287, 8)] 12 174 38 rfl (([] : List Value) ++ ([(.int .i64 x.kind)] ++ ([(.int .i64 x.from_)] ++ ([(.int .i64 x.to)] ++ (x.commit.enc ++ (x.stamp.enc ++ (x.cert.enc ++ (x.ack.enc ++ ([(.int .i64 x.epoch)] ++ ([(.int .i64 x.round)] ++ ([(.int .u64 x.time)] ++ (x.promise.enc ++ (x.proposal.enc))))))))))))) (x.vote.enc) ([(.int .i64 x.index)] ++ (x.entry.enc ++ (x.opening.enc ++ (x.deny.enc ++ ([(.string x.reply)] ++ (x.decided.enc ++ (([] : List Value)))))))) (v.enc) (v.val) rest (by rw [GVote.val_eq]; rfl) (by simp [GAck.enc_len, GCert.enc_len, GCommit.enc_len, GDecided.enc_len, GDeny.enc_len, GEntry.enc_len, GOpening.enc_len, GPromise.enc_len, GProposal.enc_len, GStamp.enc_len, GVote.enc_len]) (by simp [GAck.enc_len, GCert.enc_len, GCommit.enc_len, GDecided.enc_len, GDeny.enc_len, GEntry.enc_len, GOpening.enc_len, GPromise.enc_len, GProposal.enc_len, GStamp.enc_len, GVote.enc_len]) (by simp [GAck.enc_len, GCert.enc_len, GCommit.enc_len, GDecided.enc_len, GDeny.enc_len, GEntry.enc_len, GOpening.enc_len, GPromise.enc_len, GProposal.enc_len, GStamp.enc_len, GVote.enc_len])
  have e1 : x.enc = (([] : List Value) ++ ([(.int .i64 x.kind)] ++ ([(.int .i64 x.from_)] ++ ([(.int .i64 x.to)] ++ (x.commit.enc ++ (x.stamp.enc ++ (x.cert.enc ++ (x.ack.enc ++ ([(.int .i64 x.epoch)] ++ ([(.int .i64 x.round)] ++ ([(.int .u64 x.time)] ++ (x.promise.enc ++ (x.proposal.enc))))))))))))) ++ (x.vote.enc ++ ([(.int .i64 x.index)] ++ (x.entry.enc ++ (x.opening.enc ++ (x.deny.enc ++ ([(.string x.reply)] ++ (x.decided.enc ++ (([] : List Value))))))))) := by simp only [GMsg.enc, List.nil_append, List.append_assoc, List.append_nil]
  have e2 : ({ x with vote := v } : GMsg).enc = (([] : List Value) ++ ([(.int .i64 x.kind)] ++ ([(.int .i64 x.from_)] ++ ([(.int .i64 x.to)] ++ (x.commit.enc ++ (x.stamp.enc ++ (x.cert.enc ++ (x.ack.enc ++ ([(.int .i64 x.epoch)] ++ ([(.int .i64 x.round)] ++ ([(.int .u64 x.time)] ++ (x.promise.enc ++ (x.proposal.enc))))))))))))) ++ (v.enc ++ ([(.int .i64 x.index)] ++ (x.entry.enc ++ (x.opening.enc ++ (x.deny.enc ++ ([(.string x.reply)] ++ (x.decided.enc ++ (([] : List Value))))))))) := by simp only [GMsg.enc, List.nil_append, List.append_assoc, List.append_nil]
  rw [e1, e2]; exact h
theorem fs73_13 (x : GMsg) (v : Int) (rest : List (Nat × Value)) : Instr.fill (fun i => ([(0, 1), (1, 1), (2, 1), (3, 37), (40, 38), (78, 38), (116, 38), (154, 1), (155, 1), (156, 1), (157, 6), (163, 11), (174, 38), (212, 1), (213, 35), (248, 34), (282, 4), (286, 1), (287, 8)] : List (Nat × Nat))[i]?) x.enc.toArray ((13, (.int .i64 v)) :: rest) = Instr.fill (fun i => ([(0, 1), (1, 1), (2, 1), (3, 37), (40, 38), (78, 38), (116, 38), (154, 1), (155, 1), (156, 1), (157, 6), (163, 11), (174, 38), (212, 1), (213, 35), (248, 34), (282, 4), (286, 1), (287, 8)] : List (Nat × Nat))[i]?) ({ x with index := v } : GMsg).enc.toArray rest := by
  have h := fill_seg [(0, 1), (1, 1), (2, 1), (3, 37), (40, 38), (78, 38), (116, 38), (154, 1), (155, 1), (156, 1), (157, 6), (163, 11), (174, 38), (212, 1), (213, 35), (248, 34), (282, 4), (286, 1), (287, 8)] 13 212 1 rfl (([] : List Value) ++ ([(.int .i64 x.kind)] ++ ([(.int .i64 x.from_)] ++ ([(.int .i64 x.to)] ++ (x.commit.enc ++ (x.stamp.enc ++ (x.cert.enc ++ (x.ack.enc ++ ([(.int .i64 x.epoch)] ++ ([(.int .i64 x.round)] ++ ([(.int .u64 x.time)] ++ (x.promise.enc ++ (x.proposal.enc ++ (x.vote.enc)))))))))))))) ([(.int .i64 x.index)]) (x.entry.enc ++ (x.opening.enc ++ (x.deny.enc ++ ([(.string x.reply)] ++ (x.decided.enc ++ (([] : List Value))))))) ([(.int .i64 v)]) (.int .i64 v) rest (rfl) (by simp [GAck.enc_len, GCert.enc_len, GCommit.enc_len, GDecided.enc_len, GDeny.enc_len, GEntry.enc_len, GOpening.enc_len, GPromise.enc_len, GProposal.enc_len, GStamp.enc_len, GVote.enc_len]) (by simp [GAck.enc_len, GCert.enc_len, GCommit.enc_len, GDecided.enc_len, GDeny.enc_len, GEntry.enc_len, GOpening.enc_len, GPromise.enc_len, GProposal.enc_len, GStamp.enc_len, GVote.enc_len]) (by simp [GAck.enc_len, GCert.enc_len, GCommit.enc_len, GDecided.enc_len, GDeny.enc_len, GEntry.enc_len, GOpening.enc_len, GPromise.enc_len, GProposal.enc_len, GStamp.enc_len, GVote.enc_len])
  have e1 : x.enc = (([] : List Value) ++ ([(.int .i64 x.kind)] ++ ([(.int .i64 x.from_)] ++ ([(.int .i64 x.to)] ++ (x.commit.enc ++ (x.stamp.enc ++ (x.cert.enc ++ (x.ack.enc ++ ([(.int .i64 x.epoch)] ++ ([(.int .i64 x.round)] ++ ([(.int .u64 x.time)] ++ (x.promise.enc ++ (x.proposal.enc ++ (x.vote.enc)))))))))))))) ++ ([(.int .i64 x.index)] ++ (x.entry.enc ++ (x.opening.enc ++ (x.deny.enc ++ ([(.string x.reply)] ++ (x.decided.enc ++ (([] : List Value)))))))) := by simp only [GMsg.enc, List.nil_append, List.append_assoc, List.append_nil]
  have e2 : ({ x with index := v } : GMsg).enc = (([] : List Value) ++ ([(.int .i64 x.kind)] ++ ([(.int .i64 x.from_)] ++ ([(.int .i64 x.to)] ++ (x.commit.enc ++ (x.stamp.enc ++ (x.cert.enc ++ (x.ack.enc ++ ([(.int .i64 x.epoch)] ++ ([(.int .i64 x.round)] ++ ([(.int .u64 x.time)] ++ (x.promise.enc ++ (x.proposal.enc ++ (x.vote.enc)))))))))))))) ++ ([(.int .i64 v)] ++ (x.entry.enc ++ (x.opening.enc ++ (x.deny.enc ++ ([(.string x.reply)] ++ (x.decided.enc ++ (([] : List Value)))))))) := by simp only [GMsg.enc, List.nil_append, List.append_assoc, List.append_nil]
  rw [e1, e2]; exact h
theorem fs73_14 (x : GMsg) (v : GEntry) (rest : List (Nat × Value)) : Instr.fill (fun i => ([(0, 1), (1, 1), (2, 1), (3, 37), (40, 38), (78, 38), (116, 38), (154, 1), (155, 1), (156, 1), (157, 6), (163, 11), (174, 38), (212, 1), (213, 35), (248, 34), (282, 4), (286, 1), (287, 8)] : List (Nat × Nat))[i]?) x.enc.toArray ((14, (v.val)) :: rest) = Instr.fill (fun i => ([(0, 1), (1, 1), (2, 1), (3, 37), (40, 38), (78, 38), (116, 38), (154, 1), (155, 1), (156, 1), (157, 6), (163, 11), (174, 38), (212, 1), (213, 35), (248, 34), (282, 4), (286, 1), (287, 8)] : List (Nat × Nat))[i]?) ({ x with entry := v } : GMsg).enc.toArray rest := by
  have h := fill_seg [(0, 1), (1, 1), (2, 1), (3, 37), (40, 38), (78, 38), (116, 38), (154, 1), (155, 1), (156, 1), (157, 6), (163, 11), (174, 38), (212, 1), (213, 35), (248, 34), (282, 4), (286, 1), (287, 8)] 14 213 35 rfl (([] : List Value) ++ ([(.int .i64 x.kind)] ++ ([(.int .i64 x.from_)] ++ ([(.int .i64 x.to)] ++ (x.commit.enc ++ (x.stamp.enc ++ (x.cert.enc ++ (x.ack.enc ++ ([(.int .i64 x.epoch)] ++ ([(.int .i64 x.round)] ++ ([(.int .u64 x.time)] ++ (x.promise.enc ++ (x.proposal.enc ++ (x.vote.enc ++ ([(.int .i64 x.index)]))))))))))))))) (x.entry.enc) (x.opening.enc ++ (x.deny.enc ++ ([(.string x.reply)] ++ (x.decided.enc ++ (([] : List Value)))))) (v.enc) (v.val) rest (by rw [GEntry.val_eq]; rfl) (by simp [GAck.enc_len, GCert.enc_len, GCommit.enc_len, GDecided.enc_len, GDeny.enc_len, GEntry.enc_len, GOpening.enc_len, GPromise.enc_len, GProposal.enc_len, GStamp.enc_len, GVote.enc_len]) (by simp [GAck.enc_len, GCert.enc_len, GCommit.enc_len, GDecided.enc_len, GDeny.enc_len, GEntry.enc_len, GOpening.enc_len, GPromise.enc_len, GProposal.enc_len, GStamp.enc_len, GVote.enc_len]) (by simp [GAck.enc_len, GCert.enc_len, GCommit.enc_len, GDecided.enc_len, GDeny.enc_len, GEntry.enc_len, GOpening.enc_len, GPromise.enc_len, GProposal.enc_len, GStamp.enc_len, GVote.enc_len])
  have e1 : x.enc = (([] : List Value) ++ ([(.int .i64 x.kind)] ++ ([(.int .i64 x.from_)] ++ ([(.int .i64 x.to)] ++ (x.commit.enc ++ (x.stamp.enc ++ (x.cert.enc ++ (x.ack.enc ++ ([(.int .i64 x.epoch)] ++ ([(.int .i64 x.round)] ++ ([(.int .u64 x.time)] ++ (x.promise.enc ++ (x.proposal.enc ++ (x.vote.enc ++ ([(.int .i64 x.index)]))))))))))))))) ++ (x.entry.enc ++ (x.opening.enc ++ (x.deny.enc ++ ([(.string x.reply)] ++ (x.decided.enc ++ (([] : List Value))))))) := by simp only [GMsg.enc, List.nil_append, List.append_assoc, List.append_nil]
  have e2 : ({ x with entry := v } : GMsg).enc = (([] : List Value) ++ ([(.int .i64 x.kind)] ++ ([(.int .i64 x.from_)] ++ ([(.int .i64 x.to)] ++ (x.commit.enc ++ (x.stamp.enc ++ (x.cert.enc ++ (x.ack.enc ++ ([(.int .i64 x.epoch)] ++ ([(.int .i64 x.round)] ++ ([(.int .u64 x.time)] ++ (x.promise.enc ++ (x.proposal.enc ++ (x.vote.enc ++ ([(.int .i64 x.index)]))))))))))))))) ++ (v.enc ++ (x.opening.enc ++ (x.deny.enc ++ ([(.string x.reply)] ++ (x.decided.enc ++ (([] : List Value))))))) := by simp only [GMsg.enc, List.nil_append, List.append_assoc, List.append_nil]
  rw [e1, e2]; exact h
theorem fs73_16 (x : GMsg) (v : GDeny) (rest : List (Nat × Value)) : Instr.fill (fun i => ([(0, 1), (1, 1), (2, 1), (3, 37), (40, 38), (78, 38), (116, 38), (154, 1), (155, 1), (156, 1), (157, 6), (163, 11), (174, 38), (212, 1), (213, 35), (248, 34), (282, 4), (286, 1), (287, 8)] : List (Nat × Nat))[i]?) x.enc.toArray ((16, (v.val)) :: rest) = Instr.fill (fun i => ([(0, 1), (1, 1), (2, 1), (3, 37), (40, 38), (78, 38), (116, 38), (154, 1), (155, 1), (156, 1), (157, 6), (163, 11), (174, 38), (212, 1), (213, 35), (248, 34), (282, 4), (286, 1), (287, 8)] : List (Nat × Nat))[i]?) ({ x with deny := v } : GMsg).enc.toArray rest := by
  have h := fill_seg [(0, 1), (1, 1), (2, 1), (3, 37), (40, 38), (78, 38), (116, 38), (154, 1), (155, 1), (156, 1), (157, 6), (163, 11), (174, 38), (212, 1), (213, 35), (248, 34), (282, 4), (286, 1), (287, 8)] 16 282 4 rfl (([] : List Value) ++ ([(.int .i64 x.kind)] ++ ([(.int .i64 x.from_)] ++ ([(.int .i64 x.to)] ++ (x.commit.enc ++ (x.stamp.enc ++ (x.cert.enc ++ (x.ack.enc ++ ([(.int .i64 x.epoch)] ++ ([(.int .i64 x.round)] ++ ([(.int .u64 x.time)] ++ (x.promise.enc ++ (x.proposal.enc ++ (x.vote.enc ++ ([(.int .i64 x.index)] ++ (x.entry.enc ++ (x.opening.enc))))))))))))))))) (x.deny.enc) ([(.string x.reply)] ++ (x.decided.enc ++ (([] : List Value)))) (v.enc) (v.val) rest (by rw [GDeny.val_eq]; rfl) (by simp [GAck.enc_len, GCert.enc_len, GCommit.enc_len, GDecided.enc_len, GDeny.enc_len, GEntry.enc_len, GOpening.enc_len, GPromise.enc_len, GProposal.enc_len, GStamp.enc_len, GVote.enc_len]) (by simp [GAck.enc_len, GCert.enc_len, GCommit.enc_len, GDecided.enc_len, GDeny.enc_len, GEntry.enc_len, GOpening.enc_len, GPromise.enc_len, GProposal.enc_len, GStamp.enc_len, GVote.enc_len]) (by simp [GAck.enc_len, GCert.enc_len, GCommit.enc_len, GDecided.enc_len, GDeny.enc_len, GEntry.enc_len, GOpening.enc_len, GPromise.enc_len, GProposal.enc_len, GStamp.enc_len, GVote.enc_len])
  have e1 : x.enc = (([] : List Value) ++ ([(.int .i64 x.kind)] ++ ([(.int .i64 x.from_)] ++ ([(.int .i64 x.to)] ++ (x.commit.enc ++ (x.stamp.enc ++ (x.cert.enc ++ (x.ack.enc ++ ([(.int .i64 x.epoch)] ++ ([(.int .i64 x.round)] ++ ([(.int .u64 x.time)] ++ (x.promise.enc ++ (x.proposal.enc ++ (x.vote.enc ++ ([(.int .i64 x.index)] ++ (x.entry.enc ++ (x.opening.enc))))))))))))))))) ++ (x.deny.enc ++ ([(.string x.reply)] ++ (x.decided.enc ++ (([] : List Value))))) := by simp only [GMsg.enc, List.nil_append, List.append_assoc, List.append_nil]
  have e2 : ({ x with deny := v } : GMsg).enc = (([] : List Value) ++ ([(.int .i64 x.kind)] ++ ([(.int .i64 x.from_)] ++ ([(.int .i64 x.to)] ++ (x.commit.enc ++ (x.stamp.enc ++ (x.cert.enc ++ (x.ack.enc ++ ([(.int .i64 x.epoch)] ++ ([(.int .i64 x.round)] ++ ([(.int .u64 x.time)] ++ (x.promise.enc ++ (x.proposal.enc ++ (x.vote.enc ++ ([(.int .i64 x.index)] ++ (x.entry.enc ++ (x.opening.enc))))))))))))))))) ++ (v.enc ++ ([(.string x.reply)] ++ (x.decided.enc ++ (([] : List Value))))) := by simp only [GMsg.enc, List.nil_append, List.append_assoc, List.append_nil]
  rw [e1, e2]; exact h
theorem fs73_17 (x : GMsg) (v : ByteArray) (rest : List (Nat × Value)) : Instr.fill (fun i => ([(0, 1), (1, 1), (2, 1), (3, 37), (40, 38), (78, 38), (116, 38), (154, 1), (155, 1), (156, 1), (157, 6), (163, 11), (174, 38), (212, 1), (213, 35), (248, 34), (282, 4), (286, 1), (287, 8)] : List (Nat × Nat))[i]?) x.enc.toArray ((17, (.string v)) :: rest) = Instr.fill (fun i => ([(0, 1), (1, 1), (2, 1), (3, 37), (40, 38), (78, 38), (116, 38), (154, 1), (155, 1), (156, 1), (157, 6), (163, 11), (174, 38), (212, 1), (213, 35), (248, 34), (282, 4), (286, 1), (287, 8)] : List (Nat × Nat))[i]?) ({ x with reply := v } : GMsg).enc.toArray rest := by
  have h := fill_seg [(0, 1), (1, 1), (2, 1), (3, 37), (40, 38), (78, 38), (116, 38), (154, 1), (155, 1), (156, 1), (157, 6), (163, 11), (174, 38), (212, 1), (213, 35), (248, 34), (282, 4), (286, 1), (287, 8)] 17 286 1 rfl (([] : List Value) ++ ([(.int .i64 x.kind)] ++ ([(.int .i64 x.from_)] ++ ([(.int .i64 x.to)] ++ (x.commit.enc ++ (x.stamp.enc ++ (x.cert.enc ++ (x.ack.enc ++ ([(.int .i64 x.epoch)] ++ ([(.int .i64 x.round)] ++ ([(.int .u64 x.time)] ++ (x.promise.enc ++ (x.proposal.enc ++ (x.vote.enc ++ ([(.int .i64 x.index)] ++ (x.entry.enc ++ (x.opening.enc ++ (x.deny.enc)))))))))))))))))) ([(.string x.reply)]) (x.decided.enc ++ (([] : List Value))) ([(.string v)]) (.string v) rest (rfl) (by simp [GAck.enc_len, GCert.enc_len, GCommit.enc_len, GDecided.enc_len, GDeny.enc_len, GEntry.enc_len, GOpening.enc_len, GPromise.enc_len, GProposal.enc_len, GStamp.enc_len, GVote.enc_len]) (by simp [GAck.enc_len, GCert.enc_len, GCommit.enc_len, GDecided.enc_len, GDeny.enc_len, GEntry.enc_len, GOpening.enc_len, GPromise.enc_len, GProposal.enc_len, GStamp.enc_len, GVote.enc_len]) (by simp [GAck.enc_len, GCert.enc_len, GCommit.enc_len, GDecided.enc_len, GDeny.enc_len, GEntry.enc_len, GOpening.enc_len, GPromise.enc_len, GProposal.enc_len, GStamp.enc_len, GVote.enc_len])
  have e1 : x.enc = (([] : List Value) ++ ([(.int .i64 x.kind)] ++ ([(.int .i64 x.from_)] ++ ([(.int .i64 x.to)] ++ (x.commit.enc ++ (x.stamp.enc ++ (x.cert.enc ++ (x.ack.enc ++ ([(.int .i64 x.epoch)] ++ ([(.int .i64 x.round)] ++ ([(.int .u64 x.time)] ++ (x.promise.enc ++ (x.proposal.enc ++ (x.vote.enc ++ ([(.int .i64 x.index)] ++ (x.entry.enc ++ (x.opening.enc ++ (x.deny.enc)))))))))))))))))) ++ ([(.string x.reply)] ++ (x.decided.enc ++ (([] : List Value)))) := by simp only [GMsg.enc, List.nil_append, List.append_assoc, List.append_nil]
  have e2 : ({ x with reply := v } : GMsg).enc = (([] : List Value) ++ ([(.int .i64 x.kind)] ++ ([(.int .i64 x.from_)] ++ ([(.int .i64 x.to)] ++ (x.commit.enc ++ (x.stamp.enc ++ (x.cert.enc ++ (x.ack.enc ++ ([(.int .i64 x.epoch)] ++ ([(.int .i64 x.round)] ++ ([(.int .u64 x.time)] ++ (x.promise.enc ++ (x.proposal.enc ++ (x.vote.enc ++ ([(.int .i64 x.index)] ++ (x.entry.enc ++ (x.opening.enc ++ (x.deny.enc)))))))))))))))))) ++ ([(.string v)] ++ (x.decided.enc ++ (([] : List Value)))) := by simp only [GMsg.enc, List.nil_append, List.append_assoc, List.append_nil]
  rw [e1, e2]; exact h
theorem fs73_18 (x : GMsg) (v : GDecided) (rest : List (Nat × Value)) : Instr.fill (fun i => ([(0, 1), (1, 1), (2, 1), (3, 37), (40, 38), (78, 38), (116, 38), (154, 1), (155, 1), (156, 1), (157, 6), (163, 11), (174, 38), (212, 1), (213, 35), (248, 34), (282, 4), (286, 1), (287, 8)] : List (Nat × Nat))[i]?) x.enc.toArray ((18, (v.val)) :: rest) = Instr.fill (fun i => ([(0, 1), (1, 1), (2, 1), (3, 37), (40, 38), (78, 38), (116, 38), (154, 1), (155, 1), (156, 1), (157, 6), (163, 11), (174, 38), (212, 1), (213, 35), (248, 34), (282, 4), (286, 1), (287, 8)] : List (Nat × Nat))[i]?) ({ x with decided := v } : GMsg).enc.toArray rest := by
  have h := fill_seg [(0, 1), (1, 1), (2, 1), (3, 37), (40, 38), (78, 38), (116, 38), (154, 1), (155, 1), (156, 1), (157, 6), (163, 11), (174, 38), (212, 1), (213, 35), (248, 34), (282, 4), (286, 1), (287, 8)] 18 287 8 rfl (([] : List Value) ++ ([(.int .i64 x.kind)] ++ ([(.int .i64 x.from_)] ++ ([(.int .i64 x.to)] ++ (x.commit.enc ++ (x.stamp.enc ++ (x.cert.enc ++ (x.ack.enc ++ ([(.int .i64 x.epoch)] ++ ([(.int .i64 x.round)] ++ ([(.int .u64 x.time)] ++ (x.promise.enc ++ (x.proposal.enc ++ (x.vote.enc ++ ([(.int .i64 x.index)] ++ (x.entry.enc ++ (x.opening.enc ++ (x.deny.enc ++ ([(.string x.reply)]))))))))))))))))))) (x.decided.enc) (([] : List Value)) (v.enc) (v.val) rest (by rw [GDecided.val_eq]; rfl) (by simp [GAck.enc_len, GCert.enc_len, GCommit.enc_len, GDecided.enc_len, GDeny.enc_len, GEntry.enc_len, GOpening.enc_len, GPromise.enc_len, GProposal.enc_len, GStamp.enc_len, GVote.enc_len]) (by simp [GAck.enc_len, GCert.enc_len, GCommit.enc_len, GDecided.enc_len, GDeny.enc_len, GEntry.enc_len, GOpening.enc_len, GPromise.enc_len, GProposal.enc_len, GStamp.enc_len, GVote.enc_len]) (by simp [GAck.enc_len, GCert.enc_len, GCommit.enc_len, GDecided.enc_len, GDeny.enc_len, GEntry.enc_len, GOpening.enc_len, GPromise.enc_len, GProposal.enc_len, GStamp.enc_len, GVote.enc_len])
  have e1 : x.enc = (([] : List Value) ++ ([(.int .i64 x.kind)] ++ ([(.int .i64 x.from_)] ++ ([(.int .i64 x.to)] ++ (x.commit.enc ++ (x.stamp.enc ++ (x.cert.enc ++ (x.ack.enc ++ ([(.int .i64 x.epoch)] ++ ([(.int .i64 x.round)] ++ ([(.int .u64 x.time)] ++ (x.promise.enc ++ (x.proposal.enc ++ (x.vote.enc ++ ([(.int .i64 x.index)] ++ (x.entry.enc ++ (x.opening.enc ++ (x.deny.enc ++ ([(.string x.reply)]))))))))))))))))))) ++ (x.decided.enc ++ (([] : List Value))) := by simp only [GMsg.enc, List.nil_append, List.append_assoc, List.append_nil]
  have e2 : ({ x with decided := v } : GMsg).enc = (([] : List Value) ++ ([(.int .i64 x.kind)] ++ ([(.int .i64 x.from_)] ++ ([(.int .i64 x.to)] ++ (x.commit.enc ++ (x.stamp.enc ++ (x.cert.enc ++ (x.ack.enc ++ ([(.int .i64 x.epoch)] ++ ([(.int .i64 x.round)] ++ ([(.int .u64 x.time)] ++ (x.promise.enc ++ (x.proposal.enc ++ (x.vote.enc ++ ([(.int .i64 x.index)] ++ (x.entry.enc ++ (x.opening.enc ++ (x.deny.enc ++ ([(.string x.reply)]))))))))))))))))))) ++ (v.enc ++ (([] : List Value))) := by simp only [GMsg.enc, List.nil_append, List.append_assoc, List.append_nil]
  rw [e1, e2]; exact h
@[go_sem ↓ high] theorem xd_GMsg (ρ : Operand → Value) (dst : Option Tmp) (ps : Array (Nat × Operand)) (ty : TypeId) (pos : String) (after : Array Edge) (guard : Option (Nat × Bool)) : execOp ρ { dst, op := .build 73 ps, type := ty, pos, after, guard } = (do pure (.value (← gBuild 73 (ps.map fun (i, x) => (i, ρ x))))) := ex_build ..
@[go_sem ↓ high] theorem bd73_0 (w : World) (v0 : Int) (v11 : GProposal) : (gBuild 73 #[(0, (.int .i64 v0)), (11, (v11.val))]).run Tryz.prog w = .ok (GMsg.val ⟨v0, 0, 0, default, default, default, default, 0, 0, 0, default, v11, default, 0, default, default, default, ByteArray.empty, default⟩) w := by
  rw [GMsg.val_eq]
  refine run_gBuild_of uu73 zr73 pl73 ?_ w
  show Instr.fill _ (GMsg.enc default).toArray [(0, (.int .i64 v0)), (11, (v11.val))] = _
  rw [fs73_0, fs73_11]; rfl
@[go_sem ↓ high] theorem bd73_1 (w : World) (v0 : Int) (v13 : Int) (v17 : ByteArray) : (gBuild 73 #[(0, (.int .i64 v0)), (13, (.int .i64 v13)), (17, (.string v17))]).run Tryz.prog w = .ok (GMsg.val ⟨v0, 0, 0, default, default, default, default, 0, 0, 0, default, default, default, v13, default, default, default, v17, default⟩) w := by
  rw [GMsg.val_eq]
  refine run_gBuild_of uu73 zr73 pl73 ?_ w
  show Instr.fill _ (GMsg.enc default).toArray [(0, (.int .i64 v0)), (13, (.int .i64 v13)), (17, (.string v17))] = _
  rw [fs73_0, fs73_13, fs73_17]; rfl
@[go_sem ↓ high] theorem bd73_2 (w : World) (v0 : Int) (v16 : GDeny) : (gBuild 73 #[(0, (.int .i64 v0)), (16, (v16.val))]).run Tryz.prog w = .ok (GMsg.val ⟨v0, 0, 0, default, default, default, default, 0, 0, 0, default, default, default, 0, default, default, v16, ByteArray.empty, default⟩) w := by
  rw [GMsg.val_eq]
  refine run_gBuild_of uu73 zr73 pl73 ?_ w
  show Instr.fill _ (GMsg.enc default).toArray [(0, (.int .i64 v0)), (16, (v16.val))] = _
  rw [fs73_0, fs73_16]; rfl
@[go_sem ↓ high] theorem bd73_3 (w : World) (v0 : Int) (v13 : Int) : (gBuild 73 #[(0, (.int .i64 v0)), (13, (.int .i64 v13))]).run Tryz.prog w = .ok (GMsg.val ⟨v0, 0, 0, default, default, default, default, 0, 0, 0, default, default, default, v13, default, default, default, ByteArray.empty, default⟩) w := by
  rw [GMsg.val_eq]
  refine run_gBuild_of uu73 zr73 pl73 ?_ w
  show Instr.fill _ (GMsg.enc default).toArray [(0, (.int .i64 v0)), (13, (.int .i64 v13))] = _
  rw [fs73_0, fs73_13]; rfl
@[go_sem ↓ high] theorem bd73_4 (w : World) (v0 : Int) (v1 : Int) (v2 : Int) : (gBuild 73 #[(0, (.int .i64 v0)), (1, (.int .i64 v1)), (2, (.int .i64 v2))]).run Tryz.prog w = .ok (GMsg.val ⟨v0, v1, v2, default, default, default, default, 0, 0, 0, default, default, default, 0, default, default, default, ByteArray.empty, default⟩) w := by
  rw [GMsg.val_eq]
  refine run_gBuild_of uu73 zr73 pl73 ?_ w
  show Instr.fill _ (GMsg.enc default).toArray [(0, (.int .i64 v0)), (1, (.int .i64 v1)), (2, (.int .i64 v2))] = _
  rw [fs73_0, fs73_1, fs73_2]; rfl
@[go_sem ↓ high] theorem bd73_5 (w : World) (v0 : Int) (v12 : GVote) : (gBuild 73 #[(0, (.int .i64 v0)), (12, (v12.val))]).run Tryz.prog w = .ok (GMsg.val ⟨v0, 0, 0, default, default, default, default, 0, 0, 0, default, default, v12, 0, default, default, default, ByteArray.empty, default⟩) w := by
  rw [GMsg.val_eq]
  refine run_gBuild_of uu73 zr73 pl73 ?_ w
  show Instr.fill _ (GMsg.enc default).toArray [(0, (.int .i64 v0)), (12, (v12.val))] = _
  rw [fs73_0, fs73_12]; rfl
@[go_sem ↓ high] theorem bd73_6 (w : World) (v0 : Int) (v18 : GDecided) : (gBuild 73 #[(0, (.int .i64 v0)), (18, (v18.val))]).run Tryz.prog w = .ok (GMsg.val ⟨v0, 0, 0, default, default, default, default, 0, 0, 0, default, default, default, 0, default, default, default, ByteArray.empty, v18⟩) w := by
  rw [GMsg.val_eq]
  refine run_gBuild_of uu73 zr73 pl73 ?_ w
  show Instr.fill _ (GMsg.enc default).toArray [(0, (.int .i64 v0)), (18, (v18.val))] = _
  rw [fs73_0, fs73_18]; rfl
@[go_sem ↓ high] theorem bd73_7 (w : World) (v0 : Int) (v4 : GStamp) : (gBuild 73 #[(0, (.int .i64 v0)), (4, (v4.val))]).run Tryz.prog w = .ok (GMsg.val ⟨v0, 0, 0, default, v4, default, default, 0, 0, 0, default, default, default, 0, default, default, default, ByteArray.empty, default⟩) w := by
  rw [GMsg.val_eq]
  refine run_gBuild_of uu73 zr73 pl73 ?_ w
  show Instr.fill _ (GMsg.enc default).toArray [(0, (.int .i64 v0)), (4, (v4.val))] = _
  rw [fs73_0, fs73_4]; rfl
@[go_sem ↓ high] theorem bd73_8 (w : World) (v0 : Int) (v6 : GAck) : (gBuild 73 #[(0, (.int .i64 v0)), (6, (v6.val))]).run Tryz.prog w = .ok (GMsg.val ⟨v0, 0, 0, default, default, default, v6, 0, 0, 0, default, default, default, 0, default, default, default, ByteArray.empty, default⟩) w := by
  rw [GMsg.val_eq]
  refine run_gBuild_of uu73 zr73 pl73 ?_ w
  show Instr.fill _ (GMsg.enc default).toArray [(0, (.int .i64 v0)), (6, (v6.val))] = _
  rw [fs73_0, fs73_6]; rfl
@[go_sem ↓ high] theorem bd73_9 (w : World) (v0 : Int) (v10 : GPromise) : (gBuild 73 #[(0, (.int .i64 v0)), (10, (v10.val))]).run Tryz.prog w = .ok (GMsg.val ⟨v0, 0, 0, default, default, default, default, 0, 0, 0, v10, default, default, 0, default, default, default, ByteArray.empty, default⟩) w := by
  rw [GMsg.val_eq]
  refine run_gBuild_of uu73 zr73 pl73 ?_ w
  show Instr.fill _ (GMsg.enc default).toArray [(0, (.int .i64 v0)), (10, (v10.val))] = _
  rw [fs73_0, fs73_10]; rfl
@[go_sem ↓ high] theorem bd73_10 (w : World) (v0 : Int) (v7 : Int) (v8 : Int) (v9 : Int) : (gBuild 73 #[(0, (.int .i64 v0)), (7, (.int .i64 v7)), (8, (.int .i64 v8)), (9, (.int .u64 v9))]).run Tryz.prog w = .ok (GMsg.val ⟨v0, 0, 0, default, default, default, default, v7, v8, v9, default, default, default, 0, default, default, default, ByteArray.empty, default⟩) w := by
  rw [GMsg.val_eq]
  refine run_gBuild_of uu73 zr73 pl73 ?_ w
  show Instr.fill _ (GMsg.enc default).toArray [(0, (.int .i64 v0)), (7, (.int .i64 v7)), (8, (.int .i64 v8)), (9, (.int .u64 v9))] = _
  rw [fs73_0, fs73_7, fs73_8, fs73_9]; rfl
@[go_sem ↓ high] theorem bd73_11 (w : World) (v0 : Int) (v13 : Int) (v14 : GEntry) : (gBuild 73 #[(0, (.int .i64 v0)), (13, (.int .i64 v13)), (14, (v14.val))]).run Tryz.prog w = .ok (GMsg.val ⟨v0, 0, 0, default, default, default, default, 0, 0, 0, default, default, default, v13, v14, default, default, ByteArray.empty, default⟩) w := by
  rw [GMsg.val_eq]
  refine run_gBuild_of uu73 zr73 pl73 ?_ w
  show Instr.fill _ (GMsg.enc default).toArray [(0, (.int .i64 v0)), (13, (.int .i64 v13)), (14, (v14.val))] = _
  rw [fs73_0, fs73_13, fs73_14]; rfl
/-! ### []api.Msg -/
theorem ei32 : ElemI Tryz.prog 32 73 GMsg 960 := ⟨by kernel_rfl, by kernel_rfl⟩
@[go_sem ↓ high] theorem xg_32 (ρ : Operand → Value) (dst : Option Tmp) (ps : Array (Nat × Operand)) (ty : TypeId) (pos : String) (after : Array Edge) (guard : Option (Nat × Bool)) : execOp ρ { dst, op := .buildSlice 32 1 ps, type := ty, pos, after, guard } = (do pure (.value (← gBuildSlice 32 1 (ps.map fun (i, x) => (i, ρ x))))) := ex_buildSlice ..
@[go_sem ↓ high] theorem bs_32 (w : World) (x : GMsg) : (gBuildSlice 32 1 #[(0, GMsg.val x)]).run Tryz.prog w = .ok (.slice (some ⟨w.heap.size, 0, none⟩) 1 1) (w.alloc (.cells (GMsg.enc x).toArray 73)) := by
  rw [GMsg.val_eq]; exact run_buildSlice_one ei32 (by decide) x w
/-! ### []api.Vote -/
theorem ei69 : ElemI Tryz.prog 69 61 GVote 80 := ⟨by kernel_rfl, by kernel_rfl⟩
@[go_sem ↓ high] theorem xg_69 (ρ : Operand → Value) (dst : Option Tmp) (ps : Array (Nat × Operand)) (ty : TypeId) (pos : String) (after : Array Edge) (guard : Option (Nat × Bool)) : execOp ρ { dst, op := .buildSlice 69 1 ps, type := ty, pos, after, guard } = (do pure (.value (← gBuildSlice 69 1 (ps.map fun (i, x) => (i, ρ x))))) := ex_buildSlice ..
@[go_sem ↓ high] theorem bs_69 (w : World) (x : GVote) : (gBuildSlice 69 1 #[(0, GVote.val x)]).run Tryz.prog w = .ok (.slice (some ⟨w.heap.size, 0, none⟩) 1 1) (w.alloc (.cells (GVote.enc x).toArray 61)) := by
  rw [GVote.val_eq]; exact run_buildSlice_one ei69 (by decide) x w

end Go.Proofs.YthkifibmihijaaaGreatDoor
