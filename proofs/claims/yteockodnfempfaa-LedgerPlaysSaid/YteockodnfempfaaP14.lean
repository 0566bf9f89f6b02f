/- The document's ledger: a place written, a field written, a place put behind, its list in new memory. Conditions: those named in each theorem. -/
import Derived.Test.YteockodnfempfaaP8
import Derived.Test.YteockodnfempfaaP10
import Derived.Test.YteockodnfempfaaP12
import Derived.Laws.IdiomStrings
/- The struct types of this seat as Lean types, with the runs of single operations over them. Conditions: those named in each theorem. -/
namespace Go.Proofs.Yteockodnfempfaa
open Go Go.RowKit Go.Gv
set_option linter.unusedSimpArgs false

theorem na118 : aggT Try.prog 118 = false := by kernel_rfl
theorem us118 : (Try.prog.underlying 118).isSome = true := by kernel_rfl

/-! ### gavel/gavelref15.Ledger -/
structure GRef15Ledger where
  epoch : Int
  last : Int
  l : Hdr
  done : Int
deriving DecidableEq
instance : Inhabited GRef15Ledger := ⟨⟨0, 0, default, 0⟩⟩
def GRef15Ledger.enc (x : GRef15Ledger) : List Value := [(.int .i64 x.epoch)] ++ ([(.int .u64 x.last)] ++ ([(x.l.val)] ++ ([(.int .i64 x.done)])))
theorem GRef15Ledger.enc_len (x : GRef15Ledger) : x.enc.length = 4 := by simp [GRef15Ledger.enc]
theorem GRef15Ledger.enc_one (x : GRef15Ledger) : ∀ u ∈ x.enc, u.oneCell' = true := by
  intro u hu
  simp only [GRef15Ledger.enc, List.mem_append, List.mem_singleton] at hu
  rcases hu with hu | hu | hu | hu
  · subst hu; rfl
  · subst hu; rfl
  · subst hu; rfl
  · subst hu; rfl
theorem GRef15Ledger.enc_inj (x y : GRef15Ledger) (h : x.enc = y.enc) : x = y := by
  obtain ⟨a0, a1, a2, a3⟩ := x
  obtain ⟨b0, b1, b2, b3⟩ := y
  simp only [GRef15Ledger.enc] at h
  obtain ⟨p0, q0⟩ := List.append_inj h (rfl)
  have e0 : a0 = b0 := by have := List.head_eq_of_cons_eq p0; injection this
  obtain ⟨p1, q1⟩ := List.append_inj q0 (rfl)
  have e1 : a1 = b1 := by have := List.head_eq_of_cons_eq p1; injection this
  obtain ⟨p2, q2⟩ := List.append_inj q1 (rfl)
  have e2 : a2 = b2 := Enc.inj (α := Hdr) _ _ p2
  have e3 : a3 = b3 := by have := List.head_eq_of_cons_eq q2; injection this
  rw [e0, e1, e2, e3]
instance : Enc GRef15Ledger where
  n := 4
  enc := GRef15Ledger.enc
  pos := by omega
  len := GRef15Ledger.enc_len
  one := GRef15Ledger.enc_one
  inj := GRef15Ledger.enc_inj
@[go_sem] theorem GRef15Ledger.n_eq : Enc.n GRef15Ledger = 4 := rfl
@[irreducible] def GRef15Ledger.val (x : GRef15Ledger) : Value := .agg x.enc.toArray
theorem GRef15Ledger.val_eq (x : GRef15Ledger) : GRef15Ledger.val x = .agg (Enc.enc x).toArray := by unfold GRef15Ledger.val; rfl
theorem GRef15Ledger.ext_all (x y : GRef15Ledger) : x = y ↔ x.epoch = y.epoch ∧ x.last = y.last ∧ x.l = y.l ∧ x.done = y.done := by
  constructor
  · intro h; cases h; simp
  · intro h; cases x; cases y; simp_all
theorem uu120 : Try.prog.underlying 120 = some (.struct (Try.prog.fieldsOf 120)) := by kernel_rfl
theorem st120 : Try.prog.stoodInHeld 120 = false := by kernel_rfl
theorem fl120 : fieldTO Try.prog 120 = [(3, 0), (28, 1), (118, 2), (3, 3)] := by kernel_rfl
theorem nb120 : noBlank Try.prog 120 = true := by kernel_rfl
@[go_sem ↓ high] theorem xl_GRef15Ledger (ρ : Operand → Value) (dst : Option Tmp) (x : Operand) (ty : TypeId) (pos : String) (after : Array Edge) (guard : Option (Nat × Bool)) : execOp ρ { dst, op := .load 120 x, type := ty, pos, after, guard } = (do pure (.value (← gLoad 120 (ρ x)))) := ex_load ..
@[go_sem ↓ high] theorem xs_GRef15Ledger (ρ : Operand → Value) (dst : Option Tmp) (x y : Operand) (ty : TypeId) (pos : String) (after : Array Edge) (guard : Option (Nat × Bool)) : execOp ρ { dst, op := .store 120 x y, type := ty, pos, after, guard } = (do gStore 120 (ρ x) (ρ y); pure .skip) := ex_store ..
@[go_sem ↓ high] theorem xb_GRef15Ledger (ρ : Operand → Value) (dst : Option Tmp) (x : Operand) (ty : TypeId) (pos : String) (after : Array Edge) (guard : Option (Nat × Bool)) : execOp ρ { dst, op := .box 120 x, type := ty, pos, after, guard } = (do pure (.value (← gBox 120 (ρ x)))) := ex_box ..
@[go_sem ↓ high] theorem xa_GRef15Ledger (ρ : Operand → Value) (dst : Option Tmp) (ty : TypeId) (pos : String) (after : Array Edge) (guard : Option (Nat × Bool)) : execOp ρ { dst, op := .alloc 120, type := ty, pos, after, guard } = (do pure (.value (← gAlloc 120))) := ex_alloc ..
theorem ag120 : aggT Try.prog 120 = true := by kernel_rfl
theorem sz120 : sizeT Try.prog 120 = 4 := by kernel_rfl
section
variable (w : World)
@[go_sem ↓ high] theorem ld_GRef15Ledger (a : Addr) : (gLoad 120 (.pointer (some a))).run Try.prog w = ofOpt ((get? GRef15Ledger w a).map GRef15Ledger.val) w (noLoad Try.prog 120 a w) := by
  unfold gLoad; exact run_loadAt_opt ag120 sz120 GRef15Ledger.val GRef15Ledger.val_eq
@[go_sem ↓ high] theorem st_GRef15Ledger (a : Addr) (x : GRef15Ledger) : (gStore 120 (.pointer (some a)) (GRef15Ledger.val x)).run Try.prog w = okU' ((get? GRef15Ledger w a).isSome && blkFree w a.block) (World.putCells w a (GRef15Ledger.enc x)) (noStore Try.prog 120 (.pointer (some a)) (GRef15Ledger.val x) w) := run_gStore_any sz120 GRef15Ledger.val GRef15Ledger.val_eq w a x
@[go_sem ↓ high] theorem bx_GRef15Ledger (x : GRef15Ledger) : (gBox 120 (GRef15Ledger.val x)).run Try.prog w = .ok (.pointer (some ⟨w.heap.size, 0, none⟩)) (w.alloc (.cells (GRef15Ledger.enc x).toArray 120)) := by
  rw [GRef15Ledger.val_eq]; exact run_gBox _ w
end
theorem lk120_0 (x : GRef15Ledger) : x.enc[0]? = some (.int .i64 x.epoch) := by
  simp [GRef15Ledger.enc, List.getElem?_append]
theorem pt120_0 (w : World) (x : GRef15Ledger) : (part 3 x.enc.toArray 0).run Try.prog w = .ok (.int .i64 x.epoch) w := run_part_one na3 us3 (lk120_0 x)
@[go_sem ↓ high] theorem fd120_0 (w : World) (x : GRef15Ledger) : (gField 120 (GRef15Ledger.val x) 0).run Try.prog w = .ok (.int .i64 x.epoch) w := by
  rw [GRef15Ledger.val_eq]
  exact run_gField w uu120 (by rw [fl120]; rfl) (pt120_0 w x)
theorem lk120_1 (x : GRef15Ledger) : x.enc[1]? = some (.int .u64 x.last) := by
  simp [GRef15Ledger.enc, List.getElem?_append]
theorem pt120_1 (w : World) (x : GRef15Ledger) : (part 28 x.enc.toArray 1).run Try.prog w = .ok (.int .u64 x.last) w := run_part_one na28 us28 (lk120_1 x)
@[go_sem ↓ high] theorem fd120_1 (w : World) (x : GRef15Ledger) : (gField 120 (GRef15Ledger.val x) 1).run Try.prog w = .ok (.int .u64 x.last) w := by
  rw [GRef15Ledger.val_eq]
  exact run_gField w uu120 (by rw [fl120]; rfl) (pt120_1 w x)
theorem lk120_2 (x : GRef15Ledger) : x.enc[2]? = some (x.l.val) := by
  simp [GRef15Ledger.enc, List.getElem?_append]
theorem pt120_2 (w : World) (x : GRef15Ledger) : (part 118 x.enc.toArray 2).run Try.prog w = .ok (x.l.val) w := run_part_one na118 us118 (lk120_2 x)
@[go_sem ↓ high] theorem fd120_2 (w : World) (x : GRef15Ledger) : (gField 120 (GRef15Ledger.val x) 2).run Try.prog w = .ok (x.l.val) w := by
  rw [GRef15Ledger.val_eq]
  exact run_gField w uu120 (by rw [fl120]; rfl) (pt120_2 w x)
theorem lk120_3 (x : GRef15Ledger) : x.enc[3]? = some (.int .i64 x.done) := by
  simp [GRef15Ledger.enc, List.getElem?_append]
theorem pt120_3 (w : World) (x : GRef15Ledger) : (part 3 x.enc.toArray 3).run Try.prog w = .ok (.int .i64 x.done) w := run_part_one na3 us3 (lk120_3 x)
@[go_sem ↓ high] theorem fd120_3 (w : World) (x : GRef15Ledger) : (gField 120 (GRef15Ledger.val x) 3).run Try.prog w = .ok (.int .i64 x.done) w := by
  rw [GRef15Ledger.val_eq]
  exact run_gField w uu120 (by rw [fl120]; rfl) (pt120_3 w x)
@[go_sem ↓ high] theorem xf_GRef15Ledger (ρ : Operand → Value) (dst : Option Tmp) (x : Operand) (i : Nat) (ty : TypeId) (pos : String) (after : Array Edge) (guard : Option (Nat × Bool)) : execOp ρ { dst, op := .field 120 x i, type := ty, pos, after, guard } = (do pure (.value (← gField 120 (ρ x) i))) := ex_field ..
theorem zr120 : zeroT Try.prog 120 = some (.agg (GRef15Ledger.enc default).toArray) := by kernel_rfl
@[go_sem ↓ high] theorem al_GRef15Ledger (w : World) : (gAlloc 120).run Try.prog w = .ok (.pointer (some ⟨w.heap.size, 0, none⟩)) (w.alloc (.cells (GRef15Ledger.enc default).toArray 120)) := run_zero_alloc zr120 w
@[go_sem] theorem pc_GRef15Ledger (w : World) (n : Nat) (x z : GRef15Ledger) (hn : n = w.heap.size) : World.putCells (w.alloc (.cells (GRef15Ledger.enc z).toArray 120)) ⟨n, 0, none⟩ (GRef15Ledger.enc x) = w.alloc (.cells (GRef15Ledger.enc x).toArray 120) := putCells_top x z hn
theorem GRef15Ledger.at_epoch {w : World} {a : Addr} {x : GRef15Ledger} (h : get? GRef15Ledger w a = some x) : w.cell? (a.add 0) = some (.int .i64 x.epoch) := (get?_iff.1 h) _ _ (lk120_0 x)
theorem GRef15Ledger.at_last {w : World} {a : Addr} {x : GRef15Ledger} (h : get? GRef15Ledger w a = some x) : w.cell? (a.add 1) = some (.int .u64 x.last) := (get?_iff.1 h) _ _ (lk120_1 x)
theorem GRef15Ledger.at_l {w : World} {a : Addr} {x : GRef15Ledger} (h : get? GRef15Ledger w a = some x) : w.cell? (a.add 2) = some (x.l.val) := (get?_iff.1 h) _ _ (lk120_2 x)
theorem GRef15Ledger.at_done {w : World} {a : Addr} {x : GRef15Ledger} (h : get? GRef15Ledger w a = some x) : w.cell? (a.add 3) = some (.int .i64 x.done) := (get?_iff.1 h) _ _ (lk120_3 x)
@[go_sem] theorem nl120_0 (x : GRef15Ledger) : x.enc[0]? = some (.int .i64 x.epoch) := by
  have h := (GRef15Ledger.at_epoch (get?_new (w := (default : World)) 120 x))
  simp only [Addr.add_lit, Nat.zero_add, Nat.reduceAdd, World.cell?_alloc_new, List.getElem?_toArray] at h
  exact h
@[go_sem] theorem nl120_1 (x : GRef15Ledger) : x.enc[1]? = some (.int .u64 x.last) := by
  have h := (GRef15Ledger.at_last (get?_new (w := (default : World)) 120 x))
  simp only [Addr.add_lit, Nat.zero_add, Nat.reduceAdd, World.cell?_alloc_new, List.getElem?_toArray] at h
  exact h
@[go_sem] theorem nl120_2 (x : GRef15Ledger) : x.enc[2]? = some (x.l.val) := by
  have h := (GRef15Ledger.at_l (get?_new (w := (default : World)) 120 x))
  simp only [Addr.add_lit, Nat.zero_add, Nat.reduceAdd, World.cell?_alloc_new, List.getElem?_toArray] at h
  exact h
@[go_sem] theorem nl120_3 (x : GRef15Ledger) : x.enc[3]? = some (.int .i64 x.done) := by
  have h := (GRef15Ledger.at_done (get?_new (w := (default : World)) 120 x))
  simp only [Addr.add_lit, Nat.zero_add, Nat.reduceAdd, World.cell?_alloc_new, List.getElem?_toArray] at h
  exact h
@[go_sem] theorem nw120 (w : World) (n : Nat) (x : GRef15Ledger) (hn : n = w.heap.size) : get? GRef15Ledger (w.alloc (.cells (GRef15Ledger.enc x).toArray 120)) ⟨n, 0, none⟩ = some x := by
  subst hn; exact get?_new 120 x

/-! ### gavel/gavelref15.place -/
structure GRef15Place where
  e : GEntry
  status : Int
  payload : Hdr
deriving DecidableEq
instance : Inhabited GRef15Place := ⟨⟨default, 0, default⟩⟩
def GRef15Place.enc (x : GRef15Place) : List Value := x.e.enc ++ ([(.int .i64 x.status)] ++ ([(x.payload.val)]))
theorem GRef15Place.enc_len (x : GRef15Place) : x.enc.length = 37 := by simp [GRef15Place.enc, GEntry.enc_len]
theorem GRef15Place.enc_one (x : GRef15Place) : ∀ u ∈ x.enc, u.oneCell' = true := by
  intro u hu
  simp only [GRef15Place.enc, List.mem_append, List.mem_singleton] at hu
  rcases hu with hu | hu | hu
  · exact Enc.one (α := GEntry) _ _ hu
  · subst hu; rfl
  · subst hu; rfl
theorem GRef15Place.enc_inj (x y : GRef15Place) (h : x.enc = y.enc) : x = y := by
  obtain ⟨a0, a1, a2⟩ := x
  obtain ⟨b0, b1, b2⟩ := y
  simp only [GRef15Place.enc] at h
  obtain ⟨p0, q0⟩ := List.append_inj h (by simp [GEntry.enc_len])
  have e0 := Enc.inj (α := GEntry) _ _ p0
  obtain ⟨p1, q1⟩ := List.append_inj q0 (rfl)
  have e1 : a1 = b1 := by have := List.head_eq_of_cons_eq p1; injection this
  have e2 : a2 = b2 := Enc.inj (α := Hdr) _ _ q1
  rw [e0, e1, e2]
instance : Enc GRef15Place where
  n := 37
  enc := GRef15Place.enc
  pos := by omega
  len := GRef15Place.enc_len
  one := GRef15Place.enc_one
  inj := GRef15Place.enc_inj
@[go_sem] theorem GRef15Place.n_eq : Enc.n GRef15Place = 37 := rfl
@[irreducible] def GRef15Place.val (x : GRef15Place) : Value := .agg x.enc.toArray
theorem GRef15Place.val_eq (x : GRef15Place) : GRef15Place.val x = .agg (Enc.enc x).toArray := by unfold GRef15Place.val; rfl
theorem GRef15Place.ext_all (x y : GRef15Place) : x = y ↔ x.e = y.e ∧ x.status = y.status ∧ x.payload = y.payload := by
  constructor
  · intro h; cases h; simp
  · intro h; cases x; cases y; simp_all
theorem uu175 : Try.prog.underlying 175 = some (.struct (Try.prog.fieldsOf 175)) := by kernel_rfl
theorem st175 : Try.prog.stoodInHeld 175 = false := by kernel_rfl
theorem fl175 : fieldTO Try.prog 175 = [(30, 0), (3, 35), (79, 36)] := by kernel_rfl
theorem nb175 : noBlank Try.prog 175 = true := by kernel_rfl
@[go_sem ↓ high] theorem xl_GRef15Place (ρ : Operand → Value) (dst : Option Tmp) (x : Operand) (ty : TypeId) (pos : String) (after : Array Edge) (guard : Option (Nat × Bool)) : execOp ρ { dst, op := .load 175 x, type := ty, pos, after, guard } = (do pure (.value (← gLoad 175 (ρ x)))) := ex_load ..
@[go_sem ↓ high] theorem xs_GRef15Place (ρ : Operand → Value) (dst : Option Tmp) (x y : Operand) (ty : TypeId) (pos : String) (after : Array Edge) (guard : Option (Nat × Bool)) : execOp ρ { dst, op := .store 175 x y, type := ty, pos, after, guard } = (do gStore 175 (ρ x) (ρ y); pure .skip) := ex_store ..
@[go_sem ↓ high] theorem xb_GRef15Place (ρ : Operand → Value) (dst : Option Tmp) (x : Operand) (ty : TypeId) (pos : String) (after : Array Edge) (guard : Option (Nat × Bool)) : execOp ρ { dst, op := .box 175 x, type := ty, pos, after, guard } = (do pure (.value (← gBox 175 (ρ x)))) := ex_box ..
@[go_sem ↓ high] theorem xa_GRef15Place (ρ : Operand → Value) (dst : Option Tmp) (ty : TypeId) (pos : String) (after : Array Edge) (guard : Option (Nat × Bool)) : execOp ρ { dst, op := .alloc 175, type := ty, pos, after, guard } = (do pure (.value (← gAlloc 175))) := ex_alloc ..
theorem ag175 : aggT Try.prog 175 = true := by kernel_rfl
theorem sz175 : sizeT Try.prog 175 = 37 := by kernel_rfl
section
variable (w : World)
@[go_sem ↓ high] theorem ld_GRef15Place (a : Addr) : (gLoad 175 (.pointer (some a))).run Try.prog w = ofOpt ((get? GRef15Place w a).map GRef15Place.val) w (noLoad Try.prog 175 a w) := by
  unfold gLoad; exact run_loadAt_opt ag175 sz175 GRef15Place.val GRef15Place.val_eq
@[go_sem ↓ high] theorem st_GRef15Place (a : Addr) (x : GRef15Place) : (gStore 175 (.pointer (some a)) (GRef15Place.val x)).run Try.prog w = okU' ((get? GRef15Place w a).isSome && blkFree w a.block) (World.putCells w a (GRef15Place.enc x)) (noStore Try.prog 175 (.pointer (some a)) (GRef15Place.val x) w) := run_gStore_any sz175 GRef15Place.val GRef15Place.val_eq w a x
@[go_sem ↓ high] theorem bx_GRef15Place (x : GRef15Place) : (gBox 175 (GRef15Place.val x)).run Try.prog w = .ok (.pointer (some ⟨w.heap.size, 0, none⟩)) (w.alloc (.cells (GRef15Place.enc x).toArray 175)) := by
  rw [GRef15Place.val_eq]; exact run_gBox _ w
end
theorem ds175_0 (x : GRef15Place) : (x.enc.drop 0).take 35 = x.e.enc := by
  unfold GRef15Place.enc
  simp only [List.drop_zero]
  rw [List.take_append_of_le_length (by simp [GEntry.enc_len])]; exact List.take_of_length_le (by simp [GEntry.enc_len])
theorem pt175_0 (w : World) (x : GRef15Place) : (part 30 x.enc.toArray 0).run Try.prog w = .ok (x.e.val) w := by
  have h := run_part_agg (P := Try.prog) (w := w) (cs := x.enc) (ds := x.e.enc) (off := 0) ag30 (by rw [GEntry.enc_len]; exact sz30) (by simp [GEntry.enc_len]) (by rw [GEntry.enc_len]; exact ds175_0 x)
  rw [h, GEntry.val_eq]; rfl
@[go_sem ↓ high] theorem fd175_0 (w : World) (x : GRef15Place) : (gField 175 (GRef15Place.val x) 0).run Try.prog w = .ok (x.e.val) w := by
  rw [GRef15Place.val_eq]
  exact run_gField w uu175 (by rw [fl175]; rfl) (pt175_0 w x)
theorem lk175_1 (x : GRef15Place) : x.enc[35]? = some (.int .i64 x.status) := by
  simp [GRef15Place.enc, List.getElem?_append, GEntry.enc_len]
theorem pt175_1 (w : World) (x : GRef15Place) : (part 3 x.enc.toArray 35).run Try.prog w = .ok (.int .i64 x.status) w := run_part_one na3 us3 (lk175_1 x)
@[go_sem ↓ high] theorem fd175_1 (w : World) (x : GRef15Place) : (gField 175 (GRef15Place.val x) 1).run Try.prog w = .ok (.int .i64 x.status) w := by
  rw [GRef15Place.val_eq]
  exact run_gField w uu175 (by rw [fl175]; rfl) (pt175_1 w x)
theorem lk175_2 (x : GRef15Place) : x.enc[36]? = some (x.payload.val) := by
  simp [GRef15Place.enc, List.getElem?_append, GEntry.enc_len]
theorem pt175_2 (w : World) (x : GRef15Place) : (part 79 x.enc.toArray 36).run Try.prog w = .ok (x.payload.val) w := run_part_one na79 us79 (lk175_2 x)
@[go_sem ↓ high] theorem fd175_2 (w : World) (x : GRef15Place) : (gField 175 (GRef15Place.val x) 2).run Try.prog w = .ok (x.payload.val) w := by
  rw [GRef15Place.val_eq]
  exact run_gField w uu175 (by rw [fl175]; rfl) (pt175_2 w x)
@[go_sem ↓ high] theorem xf_GRef15Place (ρ : Operand → Value) (dst : Option Tmp) (x : Operand) (i : Nat) (ty : TypeId) (pos : String) (after : Array Edge) (guard : Option (Nat × Bool)) : execOp ρ { dst, op := .field 175 x i, type := ty, pos, after, guard } = (do pure (.value (← gField 175 (ρ x) i))) := ex_field ..
theorem zr175 : zeroT Try.prog 175 = some (.agg (GRef15Place.enc default).toArray) := by kernel_rfl
@[go_sem ↓ high] theorem al_GRef15Place (w : World) : (gAlloc 175).run Try.prog w = .ok (.pointer (some ⟨w.heap.size, 0, none⟩)) (w.alloc (.cells (GRef15Place.enc default).toArray 175)) := run_zero_alloc zr175 w
@[go_sem] theorem pc_GRef15Place (w : World) (n : Nat) (x z : GRef15Place) (hn : n = w.heap.size) : World.putCells (w.alloc (.cells (GRef15Place.enc z).toArray 175)) ⟨n, 0, none⟩ (GRef15Place.enc x) = w.alloc (.cells (GRef15Place.enc x).toArray 175) := putCells_top x z hn
theorem GRef15Place.at_e {w : World} {a : Addr} {x : GRef15Place} (h : get? GRef15Place w a = some x) : get? GEntry w (a.add 0) = some x.e := by
  rw [get?_iff] at h ⊢
  refine h.sub 0 fun j v hv => ?_
  have hd := ds175_0 x
  have hj : j < 35 := by have := (List.getElem?_eq_some_iff.1 hv).1; rwa [Enc.len] at this
  show x.enc[0 + j]? = some v
  rw [← List.getElem?_drop, ← List.getElem?_take_of_lt hj, hd]; exact hv
theorem GRef15Place.at_status {w : World} {a : Addr} {x : GRef15Place} (h : get? GRef15Place w a = some x) : w.cell? (a.add 35) = some (.int .i64 x.status) := (get?_iff.1 h) _ _ (lk175_1 x)
theorem GRef15Place.at_payload {w : World} {a : Addr} {x : GRef15Place} (h : get? GRef15Place w a = some x) : w.cell? (a.add 36) = some (x.payload.val) := (get?_iff.1 h) _ _ (lk175_2 x)
@[go_sem] theorem nw175_0_GEntry (w : World) (n : Nat) (x : GRef15Place) (hn : n = w.heap.size) : get? GEntry (w.alloc (.cells (GRef15Place.enc x).toArray 175)) ⟨n, 0, none⟩ = some x.e := by
  subst hn
  have h := (GRef15Place.at_e (get?_new (w := w) 175 x))
  simp only [Addr.add_lit, Nat.zero_add, Nat.reduceAdd] at h
  exact h
@[go_sem] theorem nw175_0_GName (w : World) (n : Nat) (x : GRef15Place) (hn : n = w.heap.size) : get? GName (w.alloc (.cells (GRef15Place.enc x).toArray 175)) ⟨n, 0, none⟩ = some x.e.name := by
  subst hn
  have h := (GEntry.at_name (GRef15Place.at_e (get?_new (w := w) 175 x)))
  simp only [Addr.add_lit, Nat.zero_add, Nat.reduceAdd] at h
  exact h
@[go_sem] theorem nl175_0 (x : GRef15Place) : x.enc[0]? = some (.int .i64 x.e.name.client) := by
  have h := (GName.at_client (GEntry.at_name (GRef15Place.at_e (get?_new (w := (default : World)) 175 x))))
  simp only [Addr.add_lit, Nat.zero_add, Nat.reduceAdd, World.cell?_alloc_new, List.getElem?_toArray] at h
  exact h
@[go_sem] theorem nl175_1 (x : GRef15Place) : x.enc[1]? = some (.int .i64 x.e.name.seq) := by
  have h := (GName.at_seq (GEntry.at_name (GRef15Place.at_e (get?_new (w := (default : World)) 175 x))))
  simp only [Addr.add_lit, Nat.zero_add, Nat.reduceAdd, World.cell?_alloc_new, List.getElem?_toArray] at h
  exact h
@[go_sem] theorem nw175_2_GHash (w : World) (n : Nat) (x : GRef15Place) (hn : n = w.heap.size) : get? GHash (w.alloc (.cells (GRef15Place.enc x).toArray 175)) ⟨n, 2, none⟩ = some x.e.hash := by
  subst hn
  have h := (GEntry.at_hash (GRef15Place.at_e (get?_new (w := w) 175 x)))
  simp only [Addr.add_lit, Nat.zero_add, Nat.reduceAdd] at h
  exact h
@[go_sem] theorem nl175_34 (x : GRef15Place) : x.enc[34]? = some (.int .u64 x.e.time) := by
  have h := (GEntry.at_time (GRef15Place.at_e (get?_new (w := (default : World)) 175 x)))
  simp only [Addr.add_lit, Nat.zero_add, Nat.reduceAdd, World.cell?_alloc_new, List.getElem?_toArray] at h
  exact h
@[go_sem] theorem nl175_35 (x : GRef15Place) : x.enc[35]? = some (.int .i64 x.status) := by
  have h := (GRef15Place.at_status (get?_new (w := (default : World)) 175 x))
  simp only [Addr.add_lit, Nat.zero_add, Nat.reduceAdd, World.cell?_alloc_new, List.getElem?_toArray] at h
  exact h
@[go_sem] theorem nl175_36 (x : GRef15Place) : x.enc[36]? = some (x.payload.val) := by
  have h := (GRef15Place.at_payload (get?_new (w := (default : World)) 175 x))
  simp only [Addr.add_lit, Nat.zero_add, Nat.reduceAdd, World.cell?_alloc_new, List.getElem?_toArray] at h
  exact h
@[go_sem] theorem nw175 (w : World) (n : Nat) (x : GRef15Place) (hn : n = w.heap.size) : get? GRef15Place (w.alloc (.cells (GRef15Place.enc x).toArray 175)) ⟨n, 0, none⟩ = some x := by
  subst hn; exact get?_new 175 x
theorem pl175 : ((Try.prog.fieldsOf 175).toList.mapM fun f => (Try.prog.info? f.type).map fun i => (f.offset, i.size)) = some [(0, 35), (35, 1), (36, 1)] := by kernel_rfl
theorem fs175_0 (x : GRef15Place) (v : GEntry) (rest : List (Nat × Value)) : Instr.fill (fun i => ([(0, 35), (35, 1), (36, 1)] : List (Nat × Nat))[i]?) x.enc.toArray ((0, (v.val)) :: rest) = Instr.fill (fun i => ([(0, 35), (35, 1), (36, 1)] : List (Nat × Nat))[i]?) ({ x with e := v } : GRef15Place).enc.toArray rest := by
  have h := fill_seg [(0, 35), (35, 1), (36, 1)] 0 0 35 rfl (([] : List Value)) (x.e.enc) ([(.int .i64 x.status)] ++ ([(x.payload.val)] ++ (([] : List Value)))) (v.enc) (v.val) rest (by rw [GEntry.val_eq]; rfl) (by simp [GEntry.enc_len]) (by simp [GEntry.enc_len]) (by simp [GEntry.enc_len])
  have e1 : x.enc = (([] : List Value)) ++ (x.e.enc ++ ([(.int .i64 x.status)] ++ ([(x.payload.val)] ++ (([] : List Value))))) := by simp [GRef15Place.enc]
  have e2 : ({ x with e := v } : GRef15Place).enc = (([] : List Value)) ++ (v.enc ++ ([(.int .i64 x.status)] ++ ([(x.payload.val)] ++ (([] : List Value))))) := by simp [GRef15Place.enc]
  rw [e1, e2]; exact h
theorem fs175_1 (x : GRef15Place) (v : Int) (rest : List (Nat × Value)) : Instr.fill (fun i => ([(0, 35), (35, 1), (36, 1)] : List (Nat × Nat))[i]?) x.enc.toArray ((1, (.int .i64 v)) :: rest) = Instr.fill (fun i => ([(0, 35), (35, 1), (36, 1)] : List (Nat × Nat))[i]?) ({ x with status := v } : GRef15Place).enc.toArray rest := by
  have h := fill_seg [(0, 35), (35, 1), (36, 1)] 1 35 1 rfl (([] : List Value) ++ (x.e.enc)) ([(.int .i64 x.status)]) ([(x.payload.val)] ++ (([] : List Value))) ([(.int .i64 v)]) (.int .i64 v) rest (rfl) (by simp [GEntry.enc_len]) (by simp [GEntry.enc_len]) (by simp [GEntry.enc_len])
  have e1 : x.enc = (([] : List Value) ++ (x.e.enc)) ++ ([(.int .i64 x.status)] ++ ([(x.payload.val)] ++ (([] : List Value)))) := by simp [GRef15Place.enc]
  have e2 : ({ x with status := v } : GRef15Place).enc = (([] : List Value) ++ (x.e.enc)) ++ ([(.int .i64 v)] ++ ([(x.payload.val)] ++ (([] : List Value)))) := by simp [GRef15Place.enc]
  rw [e1, e2]; exact h
@[go_sem ↓ high] theorem xd_GRef15Place (ρ : Operand → Value) (dst : Option Tmp) (ps : Array (Nat × Operand)) (ty : TypeId) (pos : String) (after : Array Edge) (guard : Option (Nat × Bool)) : execOp ρ { dst, op := .build 175 ps, type := ty, pos, after, guard } = (do pure (.value (← gBuild 175 (ps.map fun (i, x) => (i, ρ x))))) := ex_build ..
@[go_sem ↓ high] theorem bd175_0 (w : World) (v0 : GEntry) (v1 : Int) : (gBuild 175 #[(0, (v0.val)), (1, (.int .i64 v1))]).run Try.prog w = .ok (GRef15Place.val ⟨v0, v1, default⟩) w := by
  rw [GRef15Place.val_eq]
  refine run_gBuild_of uu175 zr175 pl175 ?_ w
  show Instr.fill _ (GRef15Place.enc default).toArray [(0, (v0.val)), (1, (.int .i64 v1))] = _
  rw [fs175_0, fs175_1]; rfl
/-! ### []gavelref15.place -/
theorem ei118 : ElemI Try.prog 118 175 GRef15Place 88 := ⟨by kernel_rfl, by kernel_rfl⟩
@[go_sem ↓ high] theorem xg_118 (ρ : Operand → Value) (dst : Option Tmp) (ps : Array (Nat × Operand)) (ty : TypeId) (pos : String) (after : Array Edge) (guard : Option (Nat × Bool)) : execOp ρ { dst, op := .buildSlice 118 1 ps, type := ty, pos, after, guard } = (do pure (.value (← gBuildSlice 118 1 (ps.map fun (i, x) => (i, ρ x))))) := ex_buildSlice ..
@[go_sem ↓ high] theorem bs_118 (w : World) (x : GRef15Place) : (gBuildSlice 118 1 #[(0, GRef15Place.val x)]).run Try.prog w = .ok (.slice (some ⟨w.heap.size, 0, none⟩) 1 1) (w.alloc (.cells (GRef15Place.enc x).toArray 175)) := by
  rw [GRef15Place.val_eq]; exact run_buildSlice_one ei118 (by decide) x w

end Go.Proofs.Yteockodnfempfaa
/- Small functions of the document's answer: a name among names, hashes compared, the time of one stamp. Conditions: those named in each theorem. -/
namespace Go.Proofs.Yteockodnfempfaa
open Go Go.RowKit Go.Gv

theorem compare_less : ∀ (a b : List UInt8), decide (Lib.compareBytes a b < 0) = Op.bytesLess a b
  | [], [] => rfl
  | [], _ :: _ => rfl
  | _ :: _, [] => rfl
  | a :: x, b :: y => by
    unfold Lib.compareBytes Op.bytesLess
    by_cases h1 : a < b
    · simp [h1]
    · by_cases h2 : b < a
      · have h3 : ¬ a = b := fun e => by subst e; exact h1 h2
        simp [h1, h2, h3]
      · have e : a = b := UInt8.le_antisymm (UInt8.not_lt.1 h2) (UInt8.not_lt.1 h1)
        subst e
        simp [h1, compare_less x y]
/-- A name among names. -/
theorem in09_any (A : Option Addr) (n c : Nat) (xs : List GName) (k : GName) (w : World) (hx : Sl GName w w.heap.size A n xs) (hn : n ≤ maxLen) :
    Calls Try.prog 121 #[.slice A n c, k.val] w fun e w' => e = .returned (.bool (decide (k ∈ xs))) ∧ Bel w w' := by
  unfold maxLen at hn
  have hk1 := get?_new (w := w) 25 k
  have hb1 := (Bel.refl w).alloc (.cells k.enc.toArray 25)
  have hx1 := hx.stepB hb1
  have HX := Lib.hid hx1; have HB := Lib.hid hb1; have HK := Lib.hid hk1
  clear hx hk1 hb1 hx1
  go_enter Try.func121, Try.ntmps121
  go_wp2_with fail
  change Hid (get? GName (w.alloc (.cells k.enc.toArray 25)) ⟨w.heap.size, 0, none⟩ = some k) at HK
  generalize w.alloc (.cells k.enc.toArray 25) = w1 at HX HB HK ⊢
  go_loopw [8] (fun i wr => ∃ j : Nat, j ≤ n ∧ i = .int .i64 j ∧ k ∉ xs.take j ∧ ∃ q, wr = w1.drewN q) (fun i _ => n - (intOf i).toNat)
  case atStart => exact ⟨0, by omega, rfl, by simp, 0, rfl⟩
  case round =>
    obtain ⟨j, hj, rfl, hno, q, rfl⟩ := hrel
    have HNO := Lib.hid hno; clear hno
    by_cases hlt : j < n
    · obtain ⟨ad, x, rfl, _, hxk, hgx⟩ := HX.out.at_ (k := j) hlt
      change get? GName w1 (ad.add (j * 2)) = some x at hgx
      have hk1 := HK.out
      have hlt2 : (j : Int) < (n : Int) := by omega
      have HXK := Lib.hid hxk
      clear hxk
      by_cases he : x = k
      · have hd : decide (x = k) = true := by simpa using he
        have HIN := Lib.hid (show decide (k ∈ xs) = true by simp; rw [← he]; exact List.mem_of_getElem? HXK.out)
        clear he
        go_wp2_with fail
        go_big_quiet (fail)
        go_wp2_with fail
        go_ret
        exact ⟨ret_bool HIN.out.symm, HB.out.trans (((Bel.refl w1).drewN _).drewN _)⟩
      · have hd : decide (x = k) = false := by simpa using he
        have HIN := Lib.hid (show k ∉ xs.take (j + 1) by
          rw [take_snoc HXK.out, List.mem_append, List.mem_singleton]
          rintro (h | h)
          · exact HNO.out h
          · exact he h.symm)
        clear he
        go_wp2_with fail
        go_big_quiet (fail)
        go_wp2_with fail
        exact ⟨⟨j + 1, by omega, by go_num, HIN.out, _, rfl⟩, by simp [intOf]; omega⟩
    · have HIN := Lib.hid (show decide (k ∈ xs) = false by
        have := HNO.out
        rw [List.take_of_length_le (by rw [HX.out.1]; omega)] at this
        simpa using this)
      have hlt2 : ¬ (j : Int) < (n : Int) := by omega
      go_wp2_with fail
      go_ret
      exact ⟨ret_bool HIN.out.symm, HB.out.trans ((Bel.refl w1).drewN _)⟩
/-- Hashes compared. -/
theorem lessHash_any (a b : GHash) (w : World) :
    Calls Try.prog 122 #[a.val, b.val] w fun e w' => e = .returned (.bool (hashLt a b)) ∧ Bel w w' := by
  have h1 : ∀ n, BytesAt (((w.alloc (.cells a.enc.toArray 27)).alloc (.cells b.enc.toArray 27)).drewN n) ⟨w.heap.size, 0, none⟩ a.l := fun n => hashBytes ((get?_drewN n).trans (get?_alloc _ (get?_new (w := w) 27 a)))
  have h2 : ∀ n, BytesAt (((w.alloc (.cells a.enc.toArray 27)).alloc (.cells b.enc.toArray 27)).drewN n) ⟨w.heap.size + 1, 0, none⟩ b.l := fun n => by
    have := get?_new (w := w.alloc (.cells a.enc.toArray 27)) 27 b
    rw [World.size_alloc] at this
    exact hashBytes ((get?_drewN n).trans this)
  have hc : ∀ (v : World) (p : Addr) (l : List UInt8), l.length = 32 → BytesAt v p l → (convert 79 9 (.slice (some p) 32 32)).run Try.prog v = .ok (.string ⟨l.toArray⟩) v := fun v p l hl hb => by
    have := run_convert_bytes_back (P := Try.prog) v 79 9 5 p 32 l (by kernel_rfl) (by kernel_rfl) (by kernel_rfl) (fun j hj => hb j l[j] (List.getElem?_eq_getElem hj))
    rwa [hl] at this
  have hc1 := fun n => hc _ _ _ a.h (h1 n)
  have hc2 := fun n => hc _ _ _ b.h (h2 n)
  have HL := Lib.hid (show Op.bytesLess a.l b.l = hashLt a b by
    unfold hashLt
    rw [compare_less])
  have HB0 := Lib.hid (((Bel.refl w).alloc (.cells a.enc.toArray 27)).alloc (.cells b.enc.toArray 27))
  clear h1 h2 hc
  go_enter Try.func122, Try.ntmps122
  go_wp2_with fail
  go_big_quiet (fail)
  go_wp2_with fail
  go_ret
  exact ⟨ret_bool HL.out, HB0.out.drewN _⟩
end Go.Proofs.Yteockodnfempfaa
/- The document's time of a certificate of one stamp; the names of its ledger. Conditions: those named in each theorem. -/
namespace Go.Proofs.Yteockodnfempfaa
open Go Go.RowKit Go.Gv

set_option maxRecDepth 100000 in
theorem median09_any (g c : Nat) (t : Int) (w : World) (hc : w.cell? ⟨g, 0, none⟩ = some (.int .u64 t)) :
    Calls Try.prog 146 #[.slice (some ⟨g, 0, none⟩) 1 c] w fun e w' => e = .returned (.tuple #[.int .u64 t, .bool true]) ∧ Bel w w' := by
  have hcn : ∀ q, (w.drewN q).cell? ⟨g, 0, none⟩ = some (.int .u64 t) := fun q => hc
  go_enter Try.func146, Try.ntmps146
  go_wp2_with fail
  go_loopw [14] (fun i wr => i = .int .i64 0 ∧ wr = w) (fun _ _ => 0)
  case atStart => exact ⟨rfl, rfl⟩
  case round =>
    obtain ⟨rfl, rfl⟩ := hrel
    go_wp2_with fail
    go_loopw [5, 6, 19] (fun b s i wi => ∃ k : Nat, k ≤ 1 ∧ i = .int .i64 k ∧ b = .int .i64 0 ∧ s = .int .i64 k ∧ ∃ q, wi = wr.drewN q) (fun _ _ i _ => 1 - (intOf i).toNat)
    case atStart => exact ⟨0, by omega, rfl, rfl, rfl, 0, rfl⟩
    case round =>
      obtain ⟨k, hk, rfl, rfl, rfl, q, rfl⟩ := hrel
      by_cases hlt : k < 1
      · obtain rfl : k = 0 := by omega
        go_wp2_with fail
        go_big_quiet (fail)
        go_wp2_with fail
        go_big_quiet (fail)
        go_wp2_with fail
        exact ⟨⟨1, by omega, rfl, rfl, rfl, _, rfl⟩, by simp [intOf]⟩
      · obtain rfl : k = 1 := by omega
        go_wp2_with fail
        go_ret2
        exact ⟨rfl, (Bel.refl wr).drewN _⟩
def timesU (s : GStamp) : List U64 := [⟨s.time⟩]
set_option maxRecDepth 100000 in
set_option maxHeartbeats 1000000 in
theorem time09_any (x : GCert) (s : GStamp) (w : World) (hx : Sl GStamp w w.heap.size x.stamps.a x.stamps.len [s]) :
    Calls Try.prog 120 #[x.val] w fun e W' => e = .returned (.int .u64 s.time) ∧ Bel w W' := by
  have H := Lib.hid hx
  have hn : x.stamps.len = 1 := hx.1.symm
  have hcell := GCert.at_stamps (get?_new (w := w) 89 x)
  have f1 : (w.alloc (.cells x.enc.toArray 89)).cell? ⟨w.heap.size, 37, none⟩ = some (.slice x.stamps.a 1 x.stamps.cap) := by
    have e : x.stamps.val = .slice x.stamps.a 1 x.stamps.cap := by unfold Hdr.val; rw [hn]
    rw [e] at hcell
    exact cell_off (by omega) hcell
  have HB0 := Lib.hid ((Bel.refl w).alloc (.cells x.enc.toArray 89))
  clear hcell hx
  go_enter Try.func120, Try.ntmps120
  go_wp2_with fail
  have F1 := Lib.hid f1
  clear f1
  change Hid ((w.alloc (.cells x.enc.toArray 89)).cell? ⟨w.heap.size, 37, none⟩ = some (.slice x.stamps.a 1 x.stamps.cap)) at F1
  generalize w.alloc (.cells x.enc.toArray 89) = w1 at F1 HB0 ⊢
  go_loopw [3, 10] (fun v i wr => ∃ k : Nat, k ≤ 1 ∧ i = .int .i64 k ∧ OwnS wr w1.heap.size 28 v ((timesU s).take k) ∧ Bel w1 wr) (fun _ i _ => 1 - (intOf i).toNat)
  case atStart => exact ⟨0, by omega, rfl, OwnS.nil _ _ _, Bel.refl w1⟩
  case round =>
    obtain ⟨k, hk, rfl, hown, hb⟩ := hrel
    have HO := Lib.hid hown; have HB := Lib.hid hb; clear hown hb
    obtain ⟨wi, rfl⟩ : ∃ wi : World, wi = wr := ⟨_, rfl⟩
    by_cases hlt : k < 1
    · have hxs := H.out.stepB (HB0.out.trans HB.out)
      rw [hn] at hxs
      obtain ⟨ad, s', hA, hab, hsk, hgs⟩ := hxs.at_ (k := k) hlt
      have hss : s' = s := by
        have := List.mem_of_getElem? hsk
        simpa using this
      subst hss
      have f2 : wi.cell? ⟨w.heap.size, 37, none⟩ = some (.slice x.stamps.a 1 x.stamps.cap) := GB.cell HB.out F1.out
      rw [hA] at f2
      change get? GStamp wi (ad.add (k * 38)) = some s' at hgs
      have ft : wi.cell? ⟨ad.block, (ad.add (k * 38)).off + 35, none⟩ = some (.int .u64 s'.time) := by
        have := cell_off (by omega) (GStamp.at_time hgs)
        rwa [add_block] at this
      have hlt1 : (k : Int) < 1 := by omega
      have htl : ((timesU s').take k).length = k := by simp [timesU]; omega
      have HTL := Lib.hid htl
      have eL : (timesU s').take k ++ [(⟨s'.time⟩ : U64)] = (timesU s').take (k + 1) := by
        obtain rfl : k = 0 := by omega
        rfl
      have EL := Lib.hid eL
      clear htl hxs hsk hA eL hgs
      go_wp2
      generalize hrun : Sem.run _ (gAppend _ _ _) _ = rr
      obtain ⟨v', w', rfl, ho, hg, hob⟩ := append_spec hrun ei36 (HO.out.alloc _) (Sl.new_ (B := wi.heap.size + 1) (xs := [(⟨s'.time⟩ : U64)]) (by rw [List.flatMap_cons, List.flatMap_nil, List.append_nil]; rfl) rfl rfl (by omega)) (by rw [HTL.out]; unfold maxLen; omega) (by rw [HTL.out]; omega) (by have := HB.out.size; simp; omega)
      clear hrun
      have hbel : Bel w1 w' := (HB.out.alloc _).appS hg (HO.out.alloc _) (Nat.le_refl _)
      rw [EL.out] at ho
      have HN2 := Lib.hid ho; have HBN2 := Lib.hid hbel
      clear ho hbel hg hob
      go_wp2
      exact ⟨⟨k + 1, by omega, by go_num, HN2.out, HBN2.out⟩, by simp [intOf]; omega⟩
    · have hk1 : k = 1 := by omega
      subst hk1
      obtain ⟨A1, c1, hv1, hoa1, _, _⟩ := OwnS.ownA HO.out
      have hsl1 := hoa1.sl
      obtain ⟨g1, rfl, _, _, _⟩ := OwnA.place hoa1 (by simp [timesU])
      obtain ⟨ad, y, e, _, hy, hgy⟩ := hsl1.at_ (k := 0) (by simp [timesU])
      injection e with e; subst e
      have hy2 : y = ⟨s.time⟩ := by simpa [timesU] using hy.symm
      subst hy2
      have hc1 : wi.cell? ⟨g1, 0, none⟩ = some (.int .u64 s.time) := by
        have := get1 (x := (⟨s.time⟩ : U64)) rfl hgy
        rwa [addN] at this
      have hl1 : ((timesU s).take 1).length = 1 := by simp [timesU]
      rw [hl1] at hv1
      subst hv1
      have HM := Lib.hid (median09_any g1 c1 s.time wi hc1)
      clear hsl1 hoa1 hy hgy hc1
      go_wp2_with fail
      refine HM.out.mono ?_
      rintro _ w2 ⟨rfl, hb2⟩
      have HB2 := Lib.hid (HB0.out.trans (HB.out.trans hb2)); clear hb2
      go_wp2_with fail
      go_ret
      exact ⟨rfl, HB2.out⟩
end Go.Proofs.Yteockodnfempfaa
/- The document's ledger: what it reads as; its names, its entries, its open places. Conditions: those named in each theorem. -/
namespace Go.Proofs.Yteockodnfempfaa
open Go Go.RowKit Go.Gv Go.Sort

def RPlaceIs (Q : Nat → Prop) (w : World) (x : GRef15Place) (m : MPlace) : Prop := x.e = m.e ∧ x.status = m.status ∧ SlQ U8 Q w x.payload m.pay
/-- The blocks that are written. -/
def footR (g : Nat) (hd : Hdr) (k : Nat) : Prop := k = g ∨ hd.val.ownBlock = some k
/-- At block g lies the document's ledger; S: its blocks that are written; U: all its blocks. -/
def RefIs (w : World) (g : Nat) (S U : Nat → Prop) (M : MLedger) : Prop :=
  ∃ (hd : Hdr) (ps : List GRef15Place), S = footR g hd ∧ ((∀ k, S k → U k) ∧ ∀ k, U k → k < w.heap.size) ∧ get? GRef15Ledger w ⟨g, 0, none⟩ = some ⟨M.epoch, M.last, hd, M.done⟩ ∧ blkFree w g = true ∧
    OwnS w 0 175 hd.val ps ∧ hd.val.ownBlock ≠ some g ∧ R2 (RPlaceIs (fun k => U k ∧ ¬ S k) w) ps M.l
section
variable {w w' : World} {g : Nat} {S U T : Nat → Prop} {M : MLedger}
theorem RefIs.ltU (h : RefIs w g S U M) : ∀ k, U k → k < w.heap.size := by
  obtain ⟨hd, ps, rfl, hSU, _⟩ := h
  exact hSU.2
theorem RefIs.sub (h : RefIs w g S U M) : ∀ k, S k → U k := by
  obtain ⟨hd, ps, rfl, hSU, _⟩ := h
  exact hSU.1
theorem RefIs.chg (h : RefIs w g S U M) (hc : Chg T w w') (hT : ∀ k, U k → ¬ T k) : RefIs w' g S U M := by
  obtain ⟨hd, ps, rfl, hSU, hg, hf, ho, hne, hr⟩ := h
  have hS : ∀ k, footR g hd k → ¬ T k := fun k hk => hT k (hSU.1 k hk)
  refine ⟨hd, ps, rfl, ⟨hSU.1, fun k hk => Nat.lt_of_lt_of_le (hSU.2 k hk) hc.size⟩, hc.get hg (hS g (.inl rfl)), hc.free hf (get?_lt hg) (hS g (.inl rfl)), ho.chg hc (fun k hk => hS k (.inr hk)), hne, hr.mono (fun a b hab => ⟨hab.1, hab.2.1, ?_⟩)⟩
  obtain ⟨h1, h2, h3, h4⟩ := hab.2.2
  exact ⟨Sl.chg hc h1 (fun hn ad e => hT _ (h4 hn ad e).1), h2, h3, h4⟩
theorem RefIs.bel (h : RefIs w g S U M) (hb : Bel w w') : RefIs w' g S U M := h.chg (T := fun _ => False) (Chg.of_bel hb _) (fun _ _ h => h)
theorem RefIs.gU (h : RefIs w g S U M) : U g := by
  obtain ⟨hd, ps, rfl, hSU, _⟩ := h
  exact hSU.1 g (.inl rfl)
theorem RefIs.free (h : RefIs w g S U M) : blkFree w g = true := by
  obtain ⟨hd, ps, rfl, hSU, hg, hf, _⟩ := h
  exact hf
/-- Its list, place by place. -/
theorem RefIs.list (h : RefIs w g S U M) : ∃ (A : Option Addr) (c : Nat), get? GRef15Ledger w ⟨g, 0, none⟩ = some ⟨M.epoch, M.last, ⟨A, M.l.length, c⟩, M.done⟩ ∧ M.l.length ≤ c ∧ c ≤ maxLen ∧ ∀ (k : Nat) (m : MPlace), M.l[k]? = some m → ∃ (pb : Nat) (x : GRef15Place), A = some ⟨pb, 0, none⟩ ∧ get? GRef15Place w ⟨pb, k * 37, none⟩ = some x ∧ x.e = m.e ∧ x.status = m.status ∧ SlQ U8 (fun k => U k ∧ ¬ S k) w x.payload m.pay ∧ S pb ∧ pb ≠ g ∧ blkFree w pb = true := by
  obtain ⟨hd, ps, rfl, hSU, hg, hf, ho, hne, hr⟩ := h
  obtain ⟨A, c, hv, hoa, hlc, hcm⟩ := OwnS.ownA ho
  have hl := hr.len
  rw [hl] at hlc hv
  have ehd : hd = ⟨A, M.l.length, c⟩ := by
    cases hd; unfold Hdr.val at hv; injection hv with e1 e2 e3; subst e1; subst e2; subst e3; rfl
  refine ⟨A, c, by rw [hg, ehd], hlc, hcm, fun k m hm => ?_⟩
  have hkl : k < ps.length := by rw [hl]; exact (List.getElem?_eq_some_iff.1 hm).1
  obtain ⟨pb, rfl, _, _, hfr⟩ := OwnA.place hoa (by omega)
  obtain ⟨ad, x, he, _, hx, hget⟩ := hoa.sl.at_ (k := k) hkl
  obtain rfl : ad = ⟨pb, 0, none⟩ := by injection he with he; exact he.symm
  rw [addN, Nat.zero_add] at hget
  obtain ⟨m', hm', hpl⟩ := hr.at_ hx
  rw [hm] at hm'; injection hm' with hm'; subst hm'
  have hob : hd.val.ownBlock = some pb := by rw [ehd]; rfl
  exact ⟨pb, x, rfl, hget, hpl.1, hpl.2.1, hpl.2.2, .inr hob, fun e => hne (by rw [hob, e]), hfr⟩
end
theorem ref_cells {w : World} {g : Nat} {x : GRef15Ledger} (h : get? GRef15Ledger w ⟨g, 0, none⟩ = some x) :
    w.cell? ⟨g, 0, none⟩ = some (.int .i64 x.epoch) ∧ w.cell? ⟨g, 1, none⟩ = some (.int .u64 x.last) ∧ w.cell? ⟨g, 2, none⟩ = some (.slice x.l.a x.l.len x.l.cap) ∧ w.cell? ⟨g, 3, none⟩ = some (.int .i64 x.done) :=
  ⟨cell_zero (GRef15Ledger.at_epoch h), by simpa using cell_off (by omega) (GRef15Ledger.at_last h), by simpa [Hdr.val] using cell_off (by omega) (GRef15Ledger.at_l h), by simpa using cell_off (by omega) (GRef15Ledger.at_done h)⟩
/-- The names that are logged. -/
theorem logged09_any (g : Nat) (S U : Nat → Prop) (M : MLedger) (w : World) (h : RefIs w g S U M) (hlen : M.l.length ≤ 1000000) :
    Calls Try.prog 88 #[.pointer (some ⟨g, 0, none⟩)] w fun e w' => ∃ v, e = .returned v ∧ OwnS w' w.heap.size 25 v (namesL M) ∧ Bel w w' := by
  have H := Lib.hid h
  obtain ⟨A, c, hg, hlc, hcm, hls⟩ := h.list
  obtain ⟨_, _, f2, _⟩ := ref_cells hg
  have HLS := Lib.hid hls
  obtain ⟨n, hn⟩ : ∃ n, M.l.length = n := ⟨_, rfl⟩
  simp only [hn] at f2
  rw [hn] at hlen
  have HN := Lib.hid hn
  have hnl : (namesL M).length = n := by unfold namesL; rw [List.length_map, hn]
  have HNL := Lib.hid hnl
  have F2 := Lib.hid f2
  clear hg hls h hn hnl hlc hcm
  go_enter Try.func88, Try.ntmps88
  go_wp2_with fail
  go_loopw [3, 10] (fun v i wr => ∃ k : Nat, k ≤ n ∧ i = .int .i64 k ∧ OwnS wr w.heap.size 25 v ((namesL M).take k) ∧ Bel w wr) (fun _ i _ => n - (intOf i).toNat)
  case atStart => exact ⟨0, by omega, rfl, OwnS.nil _ _ _, Bel.refl _⟩
  case round =>
    obtain ⟨k, hk, rfl, hown, hb⟩ := hrel
    obtain ⟨wi, rfl⟩ : ∃ wi : World, wi = wr := ⟨_, rfl⟩
    have HO := Lib.hid hown; have HB := Lib.hid hb; clear hown hb
    clear f2
    by_cases hlt : k < n
    · obtain ⟨m, hm⟩ : ∃ m, M.l[k]? = some m := ⟨_, List.getElem?_eq_getElem (by rw [HN.out]; exact hlt)⟩
      obtain ⟨pb, x, rfl, hx, hxe, _⟩ := HLS.out k m hm
      have hgx : get? GRef15Place wi ⟨pb, k * 37, none⟩ = some x := GB.get HB.out hx
      have hge : get? GEntry wi ⟨pb, k * 37, none⟩ = some m.e := by
        have := GRef15Place.at_e hgx
        rw [Addr.add_zero', hxe] at this
        exact this
      have hgn : get? GName wi ⟨pb, k * 37, none⟩ = some m.e.name := by
        have := GEntry.at_name hge
        rw [Addr.add_zero'] at this
        exact this
      have f2 : wi.cell? ⟨g, 2, none⟩ = some (.slice (some ⟨pb, 0, none⟩) n c) := GB.cell HB.out F2.out
      have hlt2 : (k : Int) < (n : Int) := by omega
      have hk0 : (0 : Int) ≤ (k : Int) := by omega
      have HTL := Lib.hid (show ((namesL M).take k).length = k by rw [List.length_take, HNL.out]; omega)
      have EL := Lib.hid (take_snoc (l := namesL M) (k := k) (a := m.e.name) (by unfold namesL; rw [List.getElem?_map, hm]; rfl))
      clear hm hx hxe hgx hge
      go_wp2
      generalize hrun : Sem.run _ (gAppend _ _ _) _ = rr
      obtain ⟨v', w', rfl, ho, hg, hob⟩ := append_spec hrun ei41 (HO.out.alloc (.cells m.e.name.enc.toArray 25)) (Sl.new_ (B := wi.heap.size + 1) (xs := [m.e.name]) (by simp; rfl) rfl rfl (by omega)) (by rw [HTL.out]; unfold maxLen; omega) (by rw [HTL.out]; omega) (by have := HB.out.size; simp only [World.size_alloc]; omega)
      clear hrun
      have hbel : Bel w w' := (HB.out.alloc _).appS hg (HO.out.alloc _) (Nat.le_refl _)
      rw [← EL.out] at ho
      have HN2 := Lib.hid ho; have HBN2 := Lib.hid hbel
      clear ho hbel hg hob
      go_wp2
      exact ⟨⟨k + 1, by omega, by go_num, HN2.out, HBN2.out⟩, by simp [intOf]; omega⟩
    · have hkn : k = n := by omega
      have HO2 := Lib.hid (show OwnS wi w.heap.size 25 u3 (namesL M) by
        have := HO.out
        rwa [List.take_of_length_le (by rw [HNL.out]; omega)] at this)
      have hlt2 : ¬ (k : Int) < (n : Int) := by omega
      clear hkn
      go_wp2_with fail
      go_ret
      exact ⟨_, rfl, HO2.out, HB.out⟩
/-- Its entries. -/
theorem log15_any (g : Nat) (S U : Nat → Prop) (M : MLedger) (w : World) (h : RefIs w g S U M) (hlen : M.l.length ≤ 1000000) :
    Calls Try.prog 58 #[.pointer (some ⟨g, 0, none⟩)] w fun e w' => ∃ v, e = .returned v ∧ OwnS w' w.heap.size 30 v (entsL M) ∧ Bel w w' := by
  have H := Lib.hid h
  obtain ⟨A, c, hg, hlc, hcm, hls⟩ := h.list
  obtain ⟨_, _, f2, _⟩ := ref_cells hg
  have HLS := Lib.hid hls
  obtain ⟨n, hn⟩ : ∃ n, M.l.length = n := ⟨_, rfl⟩
  simp only [hn] at f2
  rw [hn] at hlen
  have HN := Lib.hid hn
  have HNL := Lib.hid (show (entsL M).length = n by rw [entsL_len, hn])
  have F2 := Lib.hid f2
  clear hg hls h hn hlc hcm
  go_enter Try.func58, Try.ntmps58
  go_wp2_with fail
  go_loopw [3, 10] (fun v i wr => ∃ k : Nat, k ≤ n ∧ i = .int .i64 k ∧ OwnS wr w.heap.size 30 v ((entsL M).take k) ∧ Bel w wr) (fun _ i _ => n - (intOf i).toNat)
  case atStart => exact ⟨0, by omega, rfl, OwnS.nil _ _ _, Bel.refl _⟩
  case round =>
    obtain ⟨k, hk, rfl, hown, hb⟩ := hrel
    obtain ⟨wi, rfl⟩ : ∃ wi : World, wi = wr := ⟨_, rfl⟩
    have HO := Lib.hid hown; have HB := Lib.hid hb; clear hown hb
    clear f2
    by_cases hlt : k < n
    · obtain ⟨m, hm⟩ : ∃ m, M.l[k]? = some m := ⟨_, List.getElem?_eq_getElem (by rw [HN.out]; exact hlt)⟩
      obtain ⟨pb, x, rfl, hx, hxe, _⟩ := HLS.out k m hm
      have hgx : get? GRef15Place wi ⟨pb, k * 37, none⟩ = some x := GB.get HB.out hx
      have hge : get? GEntry wi ⟨pb, k * 37, none⟩ = some m.e := by
        have := GRef15Place.at_e hgx
        rw [Addr.add_zero', hxe] at this
        exact this
      have f2 : wi.cell? ⟨g, 2, none⟩ = some (.slice (some ⟨pb, 0, none⟩) n c) := GB.cell HB.out F2.out
      have hlt2 : (k : Int) < (n : Int) := by omega
      have hk0 : (0 : Int) ≤ (k : Int) := by omega
      have HTL := Lib.hid (show ((entsL M).take k).length = k by rw [List.length_take, HNL.out]; omega)
      have EL := Lib.hid (take_snoc (l := entsL M) (k := k) (a := m.e) (entsL_at hm))
      clear hm hx hxe hgx
      go_wp2
      generalize hrun : Sem.run _ (gAppend _ _ _) _ = rr
      obtain ⟨v', w', rfl, ho, hg, hob⟩ := append_spec hrun ei22 (HO.out.alloc (.cells m.e.enc.toArray 30)) (Sl.new_ (B := wi.heap.size + 1) (xs := [m.e]) (by simp; rfl) rfl rfl (by omega)) (by rw [HTL.out]; unfold maxLen; omega) (by rw [HTL.out]; omega) (by have := HB.out.size; simp only [World.size_alloc]; omega)
      clear hrun
      have hbel : Bel w w' := (HB.out.alloc _).appS hg (HO.out.alloc _) (Nat.le_refl _)
      rw [← EL.out] at ho
      have HN2 := Lib.hid ho; have HBN2 := Lib.hid hbel
      clear ho hbel hg hob
      go_wp2
      exact ⟨⟨k + 1, by omega, by go_num, HN2.out, HBN2.out⟩, by simp [intOf]; omega⟩
    · have hkn : k = n := by omega
      have HO2 := Lib.hid (show OwnS wi w.heap.size 30 u3 (entsL M) by
        have := HO.out
        rwa [List.take_of_length_le (by rw [HNL.out]; omega)] at this)
      have hlt2 : ¬ (k : Int) < (n : Int) := by omega
      clear hkn
      go_wp2_with fail
      go_ret
      exact ⟨_, rfl, HO2.out, HB.out⟩
/-- Is a place open? -/
theorem open15_any (g : Nat) (S U : Nat → Prop) (M : MLedger) (i : Int) (w : World) (h : RefIs w g S U M) :
    Calls Try.prog 89 #[.pointer (some ⟨g, 0, none⟩), .int .i64 i] w fun e w' => e = .returned (.bool (inB M i && stOpen M i)) ∧ w = w' := by
  obtain ⟨A, c, hg, hlc, hcm, hls⟩ := h.list
  obtain ⟨_, _, f2, _⟩ := ref_cells hg
  obtain ⟨n, hn⟩ : ∃ n, M.l.length = n := ⟨_, rfl⟩
  simp only [hn] at f2
  by_cases h0 : 0 ≤ i
  · obtain ⟨d, rfl⟩ := Int.eq_ofNat_of_zero_le h0
    by_cases h1 : d < n
    · obtain ⟨m, hm⟩ : ∃ m, M.l[d]? = some m := ⟨_, List.getElem?_eq_getElem (by rw [hn]; exact h1)⟩
      obtain ⟨pb, x, rfl, hx, hxe, hxs, _⟩ := hls d m hm
      have f5 : w.cell? ⟨pb, d * 37 + 35, none⟩ = some (.int .i64 m.status) := by
        have := cell_off (by omega) (GRef15Place.at_status hx)
        rw [hxs] at this
        exact this
      have hin : inB M (d : Int) = true := by unfold inB; rw [hn]; simp; omega
      have HR := Lib.hid (show (inB M (d : Int) && stOpen M (d : Int)) = (m.status == 1) by
        rw [hin]
        unfold stOpen
        rw [Int.toNat_natCast, hm]
        simp only [Bool.true_and]
        rw [Bool.eq_iff_iff]
        simp)
      have hd1 : (d : Int) < (n : Int) := by omega
      have hd2 : decide (d < n) = true := by simpa using h1
      clear hg hls h hn hlc hcm hm hx hxe hxs hin
      go_enter Try.func89, Try.ntmps89
      go_wp2
      go_ret
      exact ⟨ret_bool HR.out.symm, rfl⟩
    · have hin : inB M (d : Int) = false := by unfold inB; rw [hn]; simp; omega
      have HR := Lib.hid (show (inB M (d : Int) && stOpen M (d : Int)) = false by rw [hin]; rfl)
      have hd2 : decide (d < n) = false := by simpa using h1
      clear hg hls h hn hlc hcm hin
      go_enter Try.func89, Try.ntmps89
      go_wp2
      go_ret
      exact ⟨ret_bool HR.out.symm, rfl⟩
  · have hin : inB M i = false := by unfold inB; simp; omega
    have HR := Lib.hid (show (inB M i && stOpen M i) = false by rw [hin]; rfl)
    have hd2 : decide (0 ≤ i) = false := by simpa using h0
    clear hg hls h hn hlc hcm hin
    go_enter Try.func89, Try.ntmps89
    go_wp2
    go_ret
    exact ⟨ret_bool HR.out.symm, rfl⟩
end Go.Proofs.Yteockodnfempfaa
/- The document's entries of a batch: plain laws. Conditions: those named in each theorem. -/
namespace Go.Proofs.Yteockodnfempfaa
open Go Go.RowKit Go.Gv Go.Sort

def outOf (bm : List (GName × GEntry)) : List GEntry := bm.map (·.2)
theorem outOf_len (bm : List (GName × GEntry)) : (outOf bm).length = bm.length := by unfold outOf; simp
theorem outOf_at {bm : List (GName × GEntry)} {i : Nat} {x : GEntry} (h : (outOf bm)[i]? = some x) : ∃ p, bm[i]? = some p ∧ p.2 = x := by
  unfold outOf at h
  rw [List.getElem?_map, Option.map_eq_some_iff] at h
  exact h
section
variable {last T : Int} {S : List GName} {l : List GEntry} {bm : List (GName × GEntry)} {e was : GEntry} {i : Nat}
theorem best_none (h : BestIs last T S l bm) (hn : ∀ x ∈ outOf bm, x.name ≠ e.name) : mget bm e.name = none := mget_none.2 fun hm => by
  rw [List.mem_map] at hm
  obtain ⟨p, hp, hpe⟩ := hm
  exact hn p.2 (List.mem_map.2 ⟨p, hp, rfl⟩) ((h.is p hp).1.trans hpe)
theorem best_some (h : BestIs last T S l bm) (hi : (outOf bm)[i]? = some was) (hw : was.name = e.name) : mget bm e.name = some was := by
  obtain ⟨p, hp, rfl⟩ := outOf_at hi
  have hm := List.mem_of_getElem? hp
  have hk := (h.is p hm).1
  refine (mget_mem h.nodup).2 ?_
  rw [← hw, hk]
  exact hm
/-- Names of the entries so far are unlike. -/
theorem best_unlike (h : BestIs last T S l bm) {j : Nat} {x : GEntry} (hi : (outOf bm)[i]? = some was) (hj : (outOf bm)[j]? = some x) (he : was.name = x.name) : i = j := by
  obtain ⟨p, hp, rfl⟩ := outOf_at hi
  obtain ⟨q, hq, rfl⟩ := outOf_at hj
  have h1 := (h.is p (List.mem_of_getElem? hp)).1
  have h2 := (h.is q (List.mem_of_getElem? hq)).1
  have hpq : p.1 = q.1 := by rw [← h1, ← h2, he]
  obtain ⟨li, rfl⟩ := List.getElem?_eq_some_iff.1 hp
  obtain ⟨lj, rfl⟩ := List.getElem?_eq_some_iff.1 hq
  rcases Nat.lt_trichotomy i j with hij | hij | hij
  · have := List.pairwise_iff_getElem.1 h.nodup i j (by simpa using li) (by simpa using lj) hij
    exact absurd (by simpa using hpq) this
  · exact hij
  · have := List.pairwise_iff_getElem.1 h.nodup j i (by simpa using lj) (by simpa using li) hij
    exact absurd (by simpa using hpq.symm) this
theorem step_new (h : BestIs last T S l bm) (hno : ¬ (e.time ≤ last ∨ T < e.time ∨ e.name ∈ S)) (hn : ∀ x ∈ outOf bm, x.name ≠ e.name) : outOf (stepE last T S bm e) = outOf bm ++ [e] := by
  have hm := best_none h hn
  unfold stepE
  rw [if_neg hno, hm]
  simp only
  unfold mset
  rw [if_neg (mget_none.1 hm)]
  unfold outOf
  simp
theorem step_no (h : BestIs last T S l bm) (hi : (outOf bm)[i]? = some was) (hw : was.name = e.name) (ha : aheadB e was = false) : stepE last T S bm e = bm := by
  unfold stepE
  split
  · rfl
  · rw [best_some h hi hw]
    simp only
    rw [if_neg (by rw [ha]; decide)]
theorem step_yes (h : BestIs last T S l bm) (hno : ¬ (e.time ≤ last ∨ T < e.time ∨ e.name ∈ S)) (hi : (outOf bm)[i]? = some was) (hw : was.name = e.name) (ha : aheadB e was = true) : outOf (stepE last T S bm e) = (outOf bm).set i e := by
  have hm := best_some h hi hw
  unfold stepE
  rw [if_neg hno, hm]
  simp only
  rw [if_pos ha]
  have hin : e.name ∈ bm.map (·.1) := by
    apply Classical.byContradiction
    intro hc
    rw [mget_none.2 hc] at hm
    cases hm
  unfold mset
  rw [if_pos hin]
  apply List.ext_getElem?
  intro j
  unfold outOf at *
  rw [List.getElem?_set, List.map_map, List.getElem?_map]
  by_cases hij : i = j
  · subst hij
    obtain ⟨p, hp, hpw⟩ := outOf_at (bm := bm) hi
    have h1 := (h.is p (List.mem_of_getElem? hp)).1
    rw [if_pos rfl, if_pos (by simpa using (List.getElem?_eq_some_iff.1 hp).1), hp]
    simp only [Option.map_some, Function.comp_apply]
    rw [if_pos (by rw [← h1, hpw, hw])]
  · rw [if_neg hij, List.getElem?_map]
    cases hq : bm[j]? with
    | none => rfl
    | some q =>
      simp only [Option.map_some, Function.comp_apply]
      rw [if_neg]
      intro hqe
      apply hij
      refine best_unlike h (was := was) (x := q.2) hi ?_ ?_
      · unfold outOf
        rw [List.getElem?_map, hq]; rfl
      · rw [hw, (h.is q (List.mem_of_getElem? hq)).1, hqe]
end
/-! ### By time, then name: one after the other put in -/
theorem entLt_trans {x y z : GEntry} (h : entLt x y) (k : entLt y z) : entLt x z := by unfold entLt nameLt at *; omega
theorem entLt_asymm {x y : GEntry} (h : entLt x y) : ¬ entLt y x := by unfold entLt nameLt at *; omega
theorem lessB_iff (a b : GName) : lessB a b = true ↔ nameLt a b := by
  unfold lessB nameLt
  simp only [Bool.or_eq_true, Bool.and_eq_true, decide_eq_true_eq]
def SortInv (L0 : List GEntry) (i : Nat) (L : List GEntry) : Prop := L.Perm L0 ∧ (L.take i).Pairwise entLt
def InsInv (L0 : List GEntry) (i k : Nat) (L : List GEntry) : Prop := L.Perm L0 ∧ ∃ (P Q R : List GEntry) (x : GEntry), L = P ++ (x :: (Q ++ R)) ∧ P.length = k ∧ P.length + Q.length = i ∧ (P ++ Q).Pairwise entLt ∧ ∀ q ∈ Q, entLt x q
theorem InsInv.start {L0 L : List GEntry} {i : Nat} (h : SortInv L0 i L) (hi : i < L.length) : InsInv L0 i i L := by
  refine ⟨h.1, L.take i, [], L.drop (i + 1), L[i], ?_, ?_, ?_, by rw [List.append_nil]; exact h.2, by simp⟩
  · rw [List.nil_append, List.getElem_cons_drop, List.take_append_drop]
  · rw [List.length_take]; omega
  · rw [List.length_take, List.length_nil]; omega
theorem InsInv.swap {L0 L : List GEntry} {i k : Nat} {x p : GEntry} (h : InsInv L0 i (k + 1) L) (hx : L[k + 1]? = some x) (hp : L[k]? = some p) (hlt : entLt x p) : InsInv L0 i k ((L.set (k + 1) p).set k x) := by
  obtain ⟨hperm, P, Q, R, y, rfl, hk, hi, hpq, hq⟩ := h
  rcases List.eq_nil_or_concat P with rfl | ⟨P', p', rfl⟩
  · simp at hk
  · rw [List.concat_eq_append] at *
    have hk' : P'.length = k := by simpa using hk
    subst hk'
    have e1 : y = x := by
      rw [List.getElem?_append_right (by simp)] at hx
      simpa using hx
    have e2 : p' = p := by
      rw [List.append_assoc, List.getElem?_append_right (by omega)] at hp
      simpa using hp
    subst e1; subst e2
    have hset : (((P' ++ [p']) ++ (y :: (Q ++ R))).set (P'.length + 1) p').set P'.length y = P' ++ (y :: ((p' :: Q) ++ R)) := by
      rw [List.set_append_right _ _ (by simp)]
      simp
    rw [hset]
    refine ⟨?_, P', p' :: Q, R, y, rfl, rfl, by simp at hi ⊢; omega, by simpa using hpq, ?_⟩
    · refine List.Perm.trans ?_ hperm
      rw [List.append_assoc]
      exact (List.Perm.swap p' y (Q ++ R)).append_left P'
    · intro q hqm
      rw [List.mem_cons] at hqm
      rcases hqm with rfl | hqm
      · exact hlt
      · exact hq q hqm
theorem InsInv.stop {L0 L : List GEntry} {i k : Nat} (h : InsInv L0 i k L) (hnd : (L0.map (·.name)).Nodup) (hs : k = 0 ∨ ∃ (k' : Nat) (x p : GEntry), k = k' + 1 ∧ L[k]? = some x ∧ L[k']? = some p ∧ ¬ entLt x p) : SortInv L0 (i + 1) L := by
  obtain ⟨hperm, P, Q, R, y, rfl, hk, hi, hpq, hq⟩ := h
  refine ⟨hperm, ?_⟩
  have ht : (P ++ (y :: (Q ++ R))).take (i + 1) = P ++ (y :: Q) := by
    rw [show P ++ (y :: (Q ++ R)) = (P ++ (y :: Q)) ++ R from by simp]
    rw [List.take_append_of_le_length (by simp; omega), List.take_of_length_le (by simp; omega)]
  rw [ht]
  rw [List.pairwise_append] at hpq
  obtain ⟨h1, h2, h3⟩ := hpq
  rw [List.pairwise_append]
  refine ⟨h1, List.pairwise_cons.2 ⟨hq, h2⟩, fun a ha b hb => ?_⟩
  rw [List.mem_cons] at hb
  rcases hb with rfl | hb
  · rcases hs with rfl | ⟨k', x, p, rfl, hx, hp, hno⟩
    · have : P = [] := List.eq_nil_of_length_eq_zero hk
      subst this
      simp at ha
    · rcases List.eq_nil_or_concat P with rfl | ⟨P', p', rfl⟩
      · simp at hk
      · rw [List.concat_eq_append] at *
        have hk' : P'.length = k' := by simpa using hk
        subst hk'
        have e1 : b = x := by
          rw [List.getElem?_append_right (by simp)] at hx
          simpa using hx
        have e2 : p' = p := by
          rw [List.append_assoc, List.getElem?_append_right (by omega)] at hp
          simpa using hp
        subst e1; subst e2
        have hnd2 := (hperm.map (·.name)).nodup_iff.2 hnd
        have hne : p'.name ≠ b.name := by
          rw [List.map_append, List.map_append, List.map_cons, List.nodup_append] at hnd2
          exact hnd2.2.2 p'.name (by simp) b.name (by simp)
        have hpb : entLt p' b := by
          rcases entLt_total p' b with h | h | h
          · exact h
          · exact absurd h hno
          · exact absurd h hne
        rw [List.mem_append, List.mem_singleton] at ha
        rcases ha with ha | rfl
        · rw [List.pairwise_append] at h1
          exact entLt_trans (h1.2.2 a ha p' (by simp)) hpb
        · exact hpb
  · exact h3 a ha b hb
theorem SortInv.entries {last : Int} {S : List GName} {M : MBatch} {L : List GEntry} (h : SortInv (outOf (bestOf last M.time S M.proms.flatten)) L.length L) : EntriesOf last S M L := by
  refine ⟨h.1, ?_⟩
  have := h.2
  rw [List.take_of_length_le (Nat.le_refl _)] at this
  refine this.imp fun {a b} hab => ?_
  rw [Bool.eq_false_iff]
  intro hc
  exact entLt_asymm hab ((entLt_iff _ _).1 hc)
/-- A batch's entries are one list. -/
theorem EntriesOf.one {last : Int} {S : List GName} {M : MBatch} {es es' : List GEntry} (h : EntriesOf last S M es) (h' : EntriesOf last S M es') : es = es' := by
  have h1 := h.are.1.rise
  have h2 := h'.are.1.rise
  have hp : es.Perm es' := h.1.trans h'.1.symm
  exact hp.eq_of_pairwise (fun a b _ _ hab hba => absurd hba (entLt_asymm hab)) h1 h2
end Go.Proofs.Yteockodnfempfaa
/- The document's entries of a batch, walked. Conditions: those named in each theorem. -/
namespace Go.Proofs.Yteockodnfempfaa
open Go Go.RowKit Go.Gv Go.Sort

def swapB (L : List GEntry) : Nat → Bool
  | 0 => false
  | k + 1 => match L[k + 1]?, L[k]? with
    | some x, some p => decide (x.time < p.time) || (decide (x.time = p.time) && lessB x.name p.name)
    | _, _ => false
theorem swapB_at {L : List GEntry} {k : Nat} {x p : GEntry} (hx : L[k + 1]? = some x) (hp : L[k]? = some p) : swapB L (k + 1) = (decide (x.time < p.time) || (decide (x.time = p.time) && lessB x.name p.name)) := by
  simp only [swapB, hx, hp]
theorem swap_lt (x p : GEntry) : (decide (x.time < p.time) || (decide (x.time = p.time) && lessB x.name p.name)) = true ↔ entLt x p := by
  unfold entLt
  rw [Bool.or_eq_true, Bool.and_eq_true, decide_eq_true_eq, decide_eq_true_eq, lessB_iff]
theorem swapB_true {L : List GEntry} {t : Nat} {x : GEntry} (hx : L[t]? = some x) (h : swapB L t = true) : ∃ (t1 : Nat) (p : GEntry), t = t1 + 1 ∧ L[t1]? = some p ∧ entLt x p := by
  cases t with
  | zero => cases h
  | succ t1 =>
    have hl := (List.getElem?_eq_some_iff.1 hx).1
    obtain ⟨p, hp⟩ : ∃ p, L[t1]? = some p := ⟨_, List.getElem?_eq_getElem (by omega)⟩
    rw [swapB_at hx hp, swap_lt] at h
    exact ⟨t1, p, rfl, hp, h⟩
theorem swapB_false {L : List GEntry} {t : Nat} {x : GEntry} (hx : L[t]? = some x) (h : swapB L t = false) : t = 0 ∨ ∃ (t1 : Nat) (x p : GEntry), t = t1 + 1 ∧ L[t]? = some x ∧ L[t1]? = some p ∧ ¬ entLt x p := by
  cases t with
  | zero => exact .inl rfl
  | succ t1 =>
    have hl := (List.getElem?_eq_some_iff.1 hx).1
    obtain ⟨p, hp⟩ : ∃ p, L[t1]? = some p := ⟨_, List.getElem?_eq_getElem (by omega)⟩
    rw [swapB_at hx hp] at h
    exact .inr ⟨t1, x, p, rfl, hx, hp, fun hc => by rw [← swap_lt, h] at hc; cases hc⟩
theorem outOf_names {last T : Int} {S : List GName} {l : List GEntry} {bm : List (GName × GEntry)} (h : BestIs last T S l bm) : (outOf bm).map (·.name) = bm.map (·.1) := by
  unfold outOf
  rw [List.map_map]
  exact List.map_congr_left fun p hp => (h.is p hp).1
theorem own_s {α : Type} [Enc α] {w : World} {base n c : Nat} {e : TypeId} {A : Option Addr} {xs : List α} (h : OwnS w base e (.slice A n c) xs) (_hn : xs.length = n) : SlQ α (fun k => base ≤ k) w ⟨A, n, c⟩ xs := by
  obtain ⟨hd, hv, hl, hq⟩ := OwnS.slQ h
  cases hd
  unfold Hdr.val at hv
  injection hv with h1 h2 h3
  subst h1; subst h2; subst h3
  exact hq.mono (fun k _ hk => hk.1)
/-- Where an entry of a name stands so far. -/
def AtIs (L : List GEntry) (nm : GName) (s : Nat) (a : Value) : Prop := (a = .int .i64 (-1) ∧ ∀ x ∈ L.take s, x.name ≠ nm) ∨ ∃ (i : Nat) (was : GEntry), i < s ∧ a = .int .i64 i ∧ L[i]? = some was ∧ was.name = nm
theorem AtIs.here {L : List GEntry} {nm : GName} {s : Nat} {x : GEntry} (hx : L[s]? = some x) (he : x.name = nm) : AtIs L nm (s + 1) (.int .i64 s) := .inr ⟨s, x, by omega, rfl, hx, he⟩
theorem AtIs.on {L : List GEntry} {nm : GName} {s : Nat} {x : GEntry} {a : Value} (h : AtIs L nm s a) (hx : L[s]? = some x) (he : x.name ≠ nm) : AtIs L nm (s + 1) a := by
  rcases h with ⟨h1, h2⟩ | ⟨i, was, h1, h2, h3, h4⟩
  · refine .inl ⟨h1, fun y hy => ?_⟩
    rw [take_snoc hx, List.mem_append, List.mem_singleton] at hy
    rcases hy with hy | rfl
    · exact h2 y hy
    · exact he
  · exact .inr ⟨i, was, by omega, h2, h3, h4⟩
set_option maxRecDepth 100000 in
set_option maxHeartbeats 16000000 in
theorem entries09_any (last : Int) (A : Option Addr) (ns c : Nat) (S : List GName) (x : GBatch) (M : MBatch) (Q : Nat → Prop) (w : World) (hx : BatchIs Q w x M) (hS : Sl GName w w.heap.size A ns S) (hns : ns ≤ maxLen) (hlen : M.proms.flatten.length ≤ 1000000) :
    Calls Try.prog 87 #[.int .u64 last, .slice A ns c, x.val] w (EntriesR last S M w) := by
  obtain ⟨ps, hps, hpr⟩ := hx.proms
  have HPS := Lib.hid hps; have HPR := Lib.hid hpr; have HS := Lib.hid hS; have HNS := Lib.hid hns
  have hgx := get?_new (w := w) 74 x
  have f1 : (w.alloc (.cells x.enc.toArray 74)).cell? ⟨w.heap.size, 1, none⟩ = some (.int .u64 M.time) := by
    have := GBatch.at_time hgx
    rw [hx.time] at this
    exact cell_off (by omega) this
  obtain ⟨n, hn⟩ : ∃ n, x.promises.len = n := ⟨_, rfl⟩
  have f2 : (w.alloc (.cells x.enc.toArray 74)).cell? ⟨w.heap.size, 2, none⟩ = some (.slice x.promises.a n x.promises.cap) := by
    have := GBatch.at_promises hgx
    unfold Hdr.val at this
    rw [hn] at this
    exact cell_off (by omega) this
  have hbel : Bel w (w.alloc (.cells x.enc.toArray 74)) := (Bel.refl w).alloc _
  have F1 := Lib.hid f1; have F2 := Lib.hid f2; have BL := Lib.hid hbel
  have hsz1 : (w.alloc (.cells x.enc.toArray 74)).heap.size = w.heap.size + 1 := by simp
  have hnl : ps.length = n := by rw [← hn]; exact hps.1.1
  have hnb : n ≤ 9223372036854775807 := by have := hps.2.1; have := hps.2.2.1; unfold maxLen at *; omega
  clear hps hpr hS hgx hbel hx f1 f2 hns
  go_enter Try.func87, Try.ntmps87
  have f2 := F2.out
  go_upto_block 0 with fail
  generalize w.alloc (.cells x.enc.toArray 74) = w1 at F1 F2 BL hsz1 f2 ⊢
  clear f2
  go_cut [7, 19] (fun v _ wx => OwnS wx w1.heap.size 30 v (outOf (bestOf last M.time S M.proms.flatten)) ∧ Bel w1 wx)
  case first =>
    go_wp2_with fail
    go_loopw [7, 19] (fun v i wr => ∃ k : Nat, k ≤ n ∧ i = .int .i64 k ∧ OwnS wr w1.heap.size 30 v (outOf (bestOf last M.time S (M.proms.take k).flatten)) ∧ Bel w1 wr) (fun _ i _ => n - (intOf i).toNat)
    case atStart => exact ⟨0, by omega, rfl, OwnS.nil _ _ _, Bel.refl _⟩
    case round =>
      obtain ⟨k, hk, rfl, hown, hb⟩ := hrel
      have HO := Lib.hid hown; have HB := Lib.hid hb; clear hown hb
      obtain ⟨wi, rfl⟩ : ∃ wi : World, wi = wr := ⟨_, rfl⟩
      by_cases hlt : k < n
      · have hpsk := HPS.out.1
        rw [hn] at hpsk
        obtain ⟨ad, p, hA, _, hpk, hgp⟩ := hpsk.at_ (k := k) hlt
        obtain ⟨l, hlk, hpl⟩ := HPR.out.at_ hpk
        obtain ⟨cs, hcs, hcr⟩ := hpl
        have HCS := Lib.hid hcs; have HCR := Lib.hid hcr; have HLK := Lib.hid hlk
        change get? GPromise w (ad.add (k * 6)) = some p at hgp
        rw [hA] at F2
        have HBW := Lib.hid (BL.out.trans HB.out)
        have f2 : wi.cell? ⟨w.heap.size, 2, none⟩ = some (.slice (some ad) n x.promises.cap) := GB.cell HB.out F2.out
        obtain ⟨m, hmn⟩ : ∃ n, p.certs.len = n := ⟨_, rfl⟩
        have f3 : wi.cell? ⟨ad.block, (ad.add (k * 6)).off + 3, none⟩ = some (.slice p.certs.a m p.certs.cap) := by
          have := cell_off (by omega) (GPromise.at_certs (GB.get HBW.out hgp))
          rw [add_block] at this
          unfold Hdr.val at this
          rw [hmn] at this
          exact this
        have hml : cs.length = m := by rw [← hmn]; exact hcs.1.1
        have hmb2 : m ≤ 9223372036854775807 := by have := hcs.2.1; have := hcs.2.2.1; unfold maxLen at *; omega
        have HGP := Lib.hid hgp
        have hlt2 : (k : Int) < (n : Int) := by omega
        have hk0 : (0 : Int) ≤ (k : Int) := by omega
        have HOS0 := Lib.hid (show OwnS wi w1.heap.size 30 u7 (outOf (bestOf last M.time S ((M.proms.take k).flatten ++ l.take 0))) by rw [List.take_zero, List.append_nil]; exact HO.out)
        clear hpsk hpk hcs hcr hlk hA hgp
        go_wp2_with fail
        clear f2 f3
        go_loopw [7, 29] (fun v i wj => ∃ j : Nat, j ≤ m ∧ i = .int .i64 j ∧ OwnS wj w1.heap.size 30 v (outOf (bestOf last M.time S ((M.proms.take k).flatten ++ l.take j))) ∧ Bel w1 wj) (fun _ i _ => m - (intOf i).toNat)
        case atStart => exact ⟨0, by omega, rfl, HOS0.out, HB.out⟩
        case round =>
          obtain ⟨j, hj, rfl, hown2, hb2⟩ := hrel
          obtain ⟨wj, rfl⟩ : ∃ wj : World, wj = wr := ⟨_, rfl⟩
          have HB1J := Lib.hid hb2
          have hb1j := hb2
          by_cases hltj : j < m
          · have hcsj := (HCS.out.bel (BL.out.trans hb1j)).1
            rw [hmn] at hcsj
            obtain ⟨bd, cc, hBd, _, hcj, hgc⟩ := hcsj.at_ (k := j) hltj
            obtain ⟨e, hej, hce⟩ := HCR.out.at_ hcj
            obtain ⟨hc1, hc2, s, hs1, hs2⟩ := hce
            change get? GCert wj (bd.add (j * 38)) = some cc at hgc
            have f2 : wj.cell? ⟨w.heap.size, 2, none⟩ = some (.slice (some ad) n x.promises.cap) := GB.cell hb1j F2.out
            have f3 : wj.cell? ⟨ad.block, (ad.add (k * 6)).off + 3, none⟩ = some (.slice p.certs.a m p.certs.cap) := by
              have := cell_off (by omega) (GPromise.at_certs (GB.get (BL.out.trans hb1j) HGP.out))
              rw [add_block] at this
              unfold Hdr.val at this
              rw [hmn] at this
              exact this
            rw [hBd] at f3
            have hltj2 : (j : Int) < (m : Int) := by omega
            have hj0 : (0 : Int) ≤ (j : Int) := by omega
            have hstep := bestOf_snoc last M.time S ((M.proms.take k).flatten ++ l.take j) e
            have etk : (M.proms.take k).flatten ++ l.take j ++ [e] = (M.proms.take k).flatten ++ l.take (j + 1) := by rw [List.append_assoc, List.take_add_one, hej]; rfl
            rw [etk] at hstep
            have hbi := bestIs last M.time S ((M.proms.take k).flatten ++ l.take j)
            have hbl := bestOf_len last M.time S ((M.proms.take k).flatten ++ l.take j)
            have hfl : ((M.proms.take k).flatten ++ l.take j).length ≤ 1000000 := by
              have h1 := flatten_take_succ M.proms HLK.out
              have h2 : ((M.proms.take (k + 1)).flatten).length ≤ M.proms.flatten.length := by
                have := congrArg List.length (congrArg List.flatten (List.take_append_drop (k + 1) M.proms))
                rw [List.flatten_append, List.length_append] at this
                omega
              rw [h1, List.length_append] at h2
              rw [List.length_append, List.length_take]
              omega
            obtain ⟨bm, hbm⟩ : ∃ bm, bestOf last M.time S ((M.proms.take k).flatten ++ l.take j) = bm := ⟨_, rfl⟩
            rw [hbm] at hstep hbi hbl hown2
            have hol : (outOf bm).length ≤ 1000000 := by rw [outOf_len]; omega
            obtain ⟨q, hq⟩ : ∃ q, (outOf bm).length = q := ⟨_, rfl⟩
            rw [hq] at hol
            have HST := Lib.hid hstep; have HBI := Lib.hid hbi; have HQL := Lib.hid hq
            obtain ⟨oa, oc, hov, hoa, _, _⟩ := OwnS.ownA hown2
            rw [hq] at hov
            subst hov
            have HO2 := Lib.hid hown2
            have hee : (⟨cc.commit.name, cc.commit.hash, s.time⟩ : GEntry) = e := by rw [hc1, hc2, hs1]
            have HEE := Lib.hid hee
            have HSS := Lib.hid ((hs2.bel (BL.out.trans hb1j)).1)
            have hgy := get?_new (w := wj) 89 cc
            have hgy2 := GCert.at_commit hgy
            rw [Addr.add_zero'] at hgy2
            have k1 := GCommit.at_name hgy2
            rw [Addr.add_zero'] at k1
            have k2 := GCommit.at_hash hgy2
            rw [addN, Nat.zero_add] at k2
            have K1 := Lib.hid k1; have K2 := Lib.hid k2; have K3 := Lib.hid hgy
            clear hcsj hcj hej hc1 hc2 hs1 hs2 hBd hstep etk hee hgy hgy2 k1 k2 hbi hbl hfl hbm hq hoa hown2 hb2 hb1j
            have hB8 := Lib.hid ((Bel.refl wj).alloc (.cells cc.enc.toArray 89))
            go_wp2_with fail
            clear f2 f3 hgc
            generalize hwy : wj.alloc (.cells cc.enc.toArray 89) = wy at K1 K2 K3 hB8 ⊢
            refine wp_region_G GB [10] GB.rf (by kernel_rfl) ?_
            refine wpG_looks 2 11 [0,1,2,3,4,5,6,7,8] rfl GB.rf GB.tr (by kernel_rfl) (fun _ _ _ _ hd h => And.intro (hd ▸ And.left h) (And.right h)) rfl (by kernel_rfl) ?_
            intro ι W hne CW
            have g1 := fun z => (CW.out z).get K1.out
            have g2 := fun z => (CW.out z).get K2.out
            have g3 := fun z => (CW.out z).get K3.out
            have HSW := Lib.hid (fun z => HSS.out.stepB (hB8.out.trans (CW.out z).undrew))
            repeat (refine wpLooksG_step (fun K hK => ?_); go_simp; refine hK _ ?_; clear hK K)
            refine wpLooksG_step (fun K hK => ?_); go_simp
            refine ⟨_, fun z => time09_any cc s (W z) (HSW.out z), hK _ ?_⟩
            clear hK K
            refine wpLooksG_step (fun K hK => ?_); go_simp; refine hK _ ?_; clear hK K
            refine wpLooksG_nil ?_
            clear g1 g2 g3 HSW CW hne W ι
            refine wpG_new 9 10 _ _ rfl rfl (by kernel_rfl) (by kernel_rfl) rfl rfl (by kernel_rfl) _ _ rfl rfl default (⟨cc.commit.name, cc.commit.hash, s.time⟩ : GEntry) al_GEntry sz30 (fun _ => rfl) (fun _ => GEntry.val_eq _) GB.al GB.bel ?_
            intro ge wa wb hwa hge hab hgb hgel
            refine wpG_end (by kernel_rfl) (fun wn hwn => ?_) _
            have hbn : Bel wj wn := Bel.trans (Bel.trans (Bel.trans hB8.out hwa.undrew) hab) hwn
            have hen : get? GEntry wn ⟨ge, 0, none⟩ = some e := by rw [← HEE.out]; exact GB.get hwn hgb
            have k5 : get? GName wn ⟨ge, 0, none⟩ = some e.name := by
              have := GEntry.at_name hen
              rwa [Addr.add_zero'] at this
            have k6 : wn.cell? ⟨ge, 34, none⟩ = some (.int .u64 e.time) := cell_off (by omega) (GEntry.at_time hen)
            have k7 : wn.cell? ⟨w.heap.size, 1, none⟩ = some (.int .u64 M.time) := GB.cell (HB1J.out.trans hbn) F1.out
            have HB1N := Lib.hid (HB1J.out.trans hbn)
            have HON := Lib.hid (OwnS.step HO2.out hbn)
            have HEN := Lib.hid hen
            clear hwa hwn hab hbn hgb hge hgel K1 K2 K3 hB8 hwy
            by_cases hcA : e.time ≤ last
            · have HU := Lib.hid (show stepE last M.time S bm e = bm by unfold stepE; rw [if_pos (.inl hcA)])
              go_wp2_with fail
              exact ⟨⟨j + 1, by omega, by go_num, by rw [HST.out, HU.out]; exact HON.out, HB1N.out⟩, by simp [intOf]; omega⟩
            · have hA2 : decide (e.time ≤ last) = false := by simpa using hcA
              by_cases hcB : M.time < e.time
              · have HU := Lib.hid (show stepE last M.time S bm e = bm by unfold stepE; rw [if_pos (.inr (.inl hcB))])
                clear hcA
                go_wp2_with fail
                exact ⟨⟨j + 1, by omega, by go_num, by rw [HST.out, HU.out]; exact HON.out, HB1N.out⟩, by simp [intOf]; omega⟩
              · have hB2 : decide (M.time < e.time) = false := by simpa using hcB
                by_cases hcC : e.name ∈ S
                · have HU := Lib.hid (show stepE last M.time S bm e = bm by unfold stepE; rw [if_pos (.inr (.inr hcC))])
                  have HD := Lib.hid (show decide (e.name ∈ S) = true by simpa using hcC)
                  clear hcA hcB hcC
                  go_wp2_with fail
                  refine (in09_any A ns c S e.name _ (HS.out.stepB (BL.out.trans HB1N.out)) HNS.out).mono ?_
                  rw [HD.out]
                  rintro _ w5 ⟨rfl, hb5⟩
                  have HB5 := Lib.hid hb5; clear hb5
                  go_wp2_with fail
                  exact ⟨⟨j + 1, by omega, by go_num, by rw [HST.out, HU.out]; exact OwnS.step HON.out HB5.out, HB1N.out.trans HB5.out⟩, by simp [intOf]; omega⟩
                · have HNO := Lib.hid (show ¬ (e.time ≤ last ∨ M.time < e.time ∨ e.name ∈ S) by rintro (h | h | h); exact hcA h; exact hcB h; exact hcC h)
                  have HD := Lib.hid (show decide (e.name ∈ S) = false by simpa using hcC)
                  clear hcA hcB hcC
                  go_wp2_with fail
                  refine (in09_any A ns c S e.name _ (HS.out.stepB (BL.out.trans HB1N.out)) HNS.out).mono ?_
                  rw [HD.out]
                  rintro _ w5 ⟨rfl, hb5⟩
                  have HON5 := Lib.hid (OwnS.step HON.out hb5); have HEN5 := Lib.hid (GB.get hb5 HEN.out); have HB1N5 := Lib.hid (HB1N.out.trans hb5)
                  clear hb5 k5 k6 k7 HON HEN HB1N hA2 hB2
                  have k5 : get? GName w5 ⟨ge, 0, none⟩ = some e.name := by
                    have := GEntry.at_name HEN5.out
                    rwa [Addr.add_zero'] at this
                  go_wp2_with fail
                  go_loopw [12, 69] (fun a i ws => ∃ z : Nat, z ≤ q ∧ i = .int .i64 z ∧ AtIs (outOf bm) e.name z a ∧ ∃ d, ws = w5.drewN d) (fun _ i _ => q - (intOf i).toNat)
                  case atStart => exact ⟨0, by omega, rfl, .inl ⟨rfl, by simp⟩, 0, rfl⟩
                  case round =>
                    obtain ⟨z, hz, rfl, hat, d, rfl⟩ := hrel
                    have HAT := Lib.hid hat; clear hat
                    by_cases hltz : z < q
                    · obtain ⟨y, hy⟩ : ∃ y, (outOf bm)[z]? = some y := ⟨_, List.getElem?_eq_getElem (by rw [HQL.out]; exact hltz)⟩
                      have hoa5 : OwnA w5 w1.heap.size 30 oa oc (outOf bm) := by unfold OwnA; rw [HQL.out]; exact HON5.out
                      obtain ⟨ob, rfl, _, _, _⟩ := OwnA.place hoa5 (by rw [HQL.out]; omega)
                      obtain ⟨od, y', hod, _, hy', hgy⟩ := hoa5.sl.at_ (k := z) (by rw [HQL.out]; exact hltz)
                      injection hod with hod; subst hod
                      rw [hy] at hy'; injection hy' with hy'; subst hy'
                      rw [addN, Nat.zero_add] at hgy
                      change get? GEntry w5 ⟨ob, z * 35, none⟩ = some y at hgy
                      have hgy2 : get? GName w5 ⟨ob, z * 35, none⟩ = some y.name := by
                        have := GEntry.at_name hgy
                        rwa [Addr.add_zero'] at this
                      have hz2 : (z : Int) < (q : Int) := by omega
                      have hz0 : (0 : Int) ≤ (z : Int) := by omega
                      by_cases hyn : y.name = e.name
                      · have hde : decide (y.name = e.name) = true := by simpa using hyn
                        have HAT2 := Lib.hid (AtIs.here hy hyn)
                        clear hy hyn hoa5 hgy
                        go_wp2_with fail
                        go_big_quiet (fail)
                        go_wp2_with fail
                        exact ⟨⟨z + 1, by omega, by go_num, HAT2.out, _, rfl⟩, by simp [intOf]; omega⟩
                      · have hde : decide (y.name = e.name) = false := by simpa using hyn
                        have HAT2 := Lib.hid (AtIs.on HAT.out hy hyn)
                        clear hy hyn hoa5 hgy
                        go_wp2_with fail
                        go_big_quiet (fail)
                        go_wp2_with fail
                        exact ⟨⟨z + 1, by omega, by go_num, HAT2.out, _, rfl⟩, by simp [intOf]; omega⟩
                    · have hzq : q = z := by omega
                      subst hzq
                      have hz3 : ¬ (q : Int) < (q : Int) := by omega
                      obtain ⟨w6, hw6⟩ : ∃ w6 : World, w5.drewN d = w6 := ⟨_, rfl⟩
                      have hb56 : Bel w5 w6 := by rw [← hw6]; exact (Bel.refl w5).drewN _
                      have HON6 := Lib.hid (OwnS.step HON5.out hb56); have HEN6 := Lib.hid (GB.get hb56 HEN5.out); have HB1N6 := Lib.hid (HB1N5.out.trans hb56)
                      rw [hw6]
                      clear k5 hb56 hw6 HON5 HEN5 HB1N5
                      rcases HAT.out with ⟨rfl, hnone⟩ | ⟨i0, was, hi0, rfl, hwas, hwn⟩
                      · have hnew := step_new HBI.out HNO.out (fun x hx => hnone x (by rw [List.take_of_length_le (by rw [HQL.out]; exact Nat.le_refl _)]; exact hx))
                        have HNEW := Lib.hid hnew
                        have he6 := HEN6.out
                        clear hnone hnew
                        go_wp2
                        generalize hrun : Sem.run _ (gAppend _ _ _) _ = rr
                        obtain ⟨v', w', rfl, ho, hg, hob⟩ := append_spec hrun ei22 (HON6.out.alloc (.cells e.enc.toArray 30)) (Sl.new_ (B := w6.heap.size + 1) (xs := [e]) (by simp; rfl) rfl rfl (by omega)) (by rw [HQL.out]; unfold maxLen; omega) (by rw [HQL.out]; omega) (by have := HB1N6.out.size; simp only [World.size_alloc]; omega)
                        clear hrun
                        have hbel : Bel w1 w' := (HB1N6.out.alloc _).appS hg (HON6.out.alloc _) (Nat.le_refl _)
                        rw [← HNEW.out, ← HST.out] at ho
                        have HN2 := Lib.hid ho; have HBN2 := Lib.hid hbel
                        clear ho hbel hg hob
                        go_wp2
                        exact ⟨⟨j + 1, by omega, by go_num, HN2.out, HBN2.out⟩, by simp [intOf]; omega⟩
                      · have hoa6 : OwnA w6 w1.heap.size 30 oa oc (outOf bm) := by unfold OwnA; rw [HQL.out]; exact HON6.out
                        obtain ⟨ob, rfl, hob1, hob2, hobf⟩ := OwnA.place hoa6 (by rw [HQL.out]; omega)
                        obtain ⟨od, y', hod, _, hy', hgy⟩ := hoa6.sl.at_ (k := i0) (by rw [HQL.out]; exact hi0)
                        injection hod with hod; subst hod
                        rw [hwas] at hy'; injection hy' with hy'; subst hy'
                        rw [addN, Nat.zero_add] at hgy
                        change get? GEntry w6 ⟨ob, i0 * 35, none⟩ = some was at hgy
                        have he6 := HEN6.out
                        have ht6 : w6.cell? ⟨ge, 34, none⟩ = some (.int .u64 e.time) := cell_off (by omega) (GEntry.at_time he6)
                        have ht7 : w6.cell? ⟨ob, i0 * 35 + 34, none⟩ = some (.int .u64 was.time) := cell_off (by omega) (GEntry.at_time hgy)
                        have hh6 : get? GHash w6 ⟨ge, 2, none⟩ = some e.hash := by
                          have := GEntry.at_hash he6
                          rwa [addN, Nat.zero_add] at this
                        have hh7 : get? GHash w6 ⟨ob, i0 * 35 + 2, none⟩ = some was.hash := by
                          have := GEntry.at_hash hgy
                          rwa [addN] at this
                        have hi2 : (i0 : Int) < (q : Int) := by omega
                        have hi1 : (0 : Int) ≤ (i0 : Int) := by omega
                        have hi3 : decide ((i0 : Int) < 0) = false := by simp
                        have HB6O := Lib.hid hob1
                        have HPUT := Lib.hid (fun (v : World) (hv : Bel w6 v) => (show OwnS (World.putCells v ⟨ob, i0 * 35, none⟩ (GEntry.enc e)) w1.heap.size 30 (.slice (some ⟨ob, 0, none⟩) q oc) ((outOf bm).set i0 e) ∧ Bel w1 (World.putCells v ⟨ob, i0 * 35, none⟩ (GEntry.enc e)) from by
                          refine ⟨?_, putCells_below (o := i0 * 35) (HB1N6.out.trans hv) HB6O.out (Enc.enc e)⟩
                          have := (OwnA.put (OwnA.stepB hoa6 hv) (k := i0) (by rw [HQL.out]; exact hi0) e).1
                          unfold OwnA at this
                          rw [List.length_set, HQL.out] at this
                          exact this))
                        have HGY := Lib.hid hgy; have HFR := Lib.hid hobf
                        have hif : i0 < q := hi0
                        rcases Int.lt_trichotomy e.time was.time with hlt | heq | hgt
                        · have hd1 : decide (e.time < was.time) = true := by simpa using hlt
                          have HY := Lib.hid (step_yes HBI.out HNO.out hwas hwn (by unfold aheadB; rw [hd1]; rfl))
                          clear hlt hwas hwn hoa6 hobf hob1
                          go_wp2_with fail
                          go_big_quiet (fail)
                          obtain ⟨w7, hw7⟩ : ∃ w7 : World, w6.drewN nq = w7 := ⟨_, rfl⟩
                          have hb67 : Bel w6 w7 := by rw [← hw7]; exact (Bel.refl w6).drewN _
                          have hk7 : get? GEntry w7 ⟨ob, i0 * 35, none⟩ = some was := GB.get hb67 HGY.out
                          have hk8 : blkFree w7 ob = true := (blkFree_keep (hb67.block _ hob2)).trans HFR.out
                          have hk9 : get? GEntry w7 ⟨ge, 0, none⟩ = some e := GB.get hb67 HEN6.out
                          have HP := Lib.hid (HPUT.out w7 hb67)
                          rw [hw7]
                          clear hw7 hb67 he6 ht6 ht7 hh6 hh7 hgy
                          go_wp2_with fail
                          exact ⟨⟨j + 1, by omega, by go_num, by rw [HST.out, HY.out]; exact HP.out.1, HP.out.2⟩, by simp [intOf]; omega⟩
                        · have hd1 : decide (e.time < was.time) = false := by simp; omega
                          have hd2 : (e.time == was.time) = true := by simpa using heq
                          have hd3 : decide (e.time = was.time) = true := by simpa using heq
                          cases hr : hashLt e.hash was.hash with
                          | true =>
                            have HY := Lib.hid (step_yes HBI.out HNO.out hwas hwn (by unfold aheadB; rw [hd1, hd3, hr]; rfl))
                            clear heq hd3 hwas hwn hoa6 hobf hob1
                            go_wp2_with fail
                            refine wp_region_G GB [] GB.rf (by kernel_rfl) ?_
                            refine wpG_looks 0 28 [0,1,2,3,4,5,6,7,8,9,10,11,12,13,14,15,16,17,18,19,20,21,22,23,24,25,26,27] rfl GB.rf GB.tr (by kernel_rfl) (fun _ _ _ _ hd h => And.intro (hd ▸ And.left h) (And.right h)) rfl (by kernel_rfl) ?_
                            intro ι W hne CW
                            have g1 := fun z => (CW.out z).cell ht6
                            have g2 := fun z => (CW.out z).cell ht7
                            have g3 := fun z => (CW.out z).get hh6
                            have g4 := fun z => (CW.out z).get hh7
                            repeat (refine wpLooksG_step (fun K hK => ?_); go_simp; refine hK _ ?_; clear hK K)
                            refine wpLooksG_step (fun K hK => ?_); go_simp
                            refine ⟨_, fun z => lessHash_any e.hash was.hash (W z), hK _ ?_⟩
                            clear hK K
                            repeat (refine wpLooksG_step (fun K hK => ?_); go_simp; refine hK _ ?_; clear hK K)
                            refine wpLooksG_nil ?_
                            clear g1 g2 g3 g4 CW hne W ι
                            refine wpG_end (by kernel_rfl) (fun w7 hwd => ?_) _
                            have hb67 : Bel w6 w7 := hwd.undrew
                            have hk7 : get? GEntry w7 ⟨ob, i0 * 35, none⟩ = some was := GB.get hb67 HGY.out
                            have hk8 : blkFree w7 ob = true := (blkFree_keep (hb67.block _ hob2)).trans HFR.out
                            have hk9 : get? GEntry w7 ⟨ge, 0, none⟩ = some e := GB.get hb67 HEN6.out
                            have HP := Lib.hid (HPUT.out w7 hb67)
                            clear hb67 hwd he6 ht6 ht7 hh6 hh7 hgy
                            go_wp2_with fail
                            exact ⟨⟨j + 1, by omega, by go_num, by rw [HST.out, HY.out]; exact HP.out.1, HP.out.2⟩, by simp [intOf]; omega⟩
                          | false =>
                            have HU := Lib.hid (step_no HBI.out hwas hwn (by unfold aheadB; rw [hd1, hd3, hr]; rfl))
                            clear heq hd3 hwas hwn hoa6 hobf hob1
                            go_wp2_with fail
                            refine wp_region_G GB [] GB.rf (by kernel_rfl) ?_
                            refine wpG_looks 0 28 [0,1,2,3,4,5,6,7,8,9,10,11,12,13,14,15,16,17,18,19,20,21,22,23,24,25,26,27] rfl GB.rf GB.tr (by kernel_rfl) (fun _ _ _ _ hd h => And.intro (hd ▸ And.left h) (And.right h)) rfl (by kernel_rfl) ?_
                            intro ι W hne CW
                            have g1 := fun z => (CW.out z).cell ht6
                            have g2 := fun z => (CW.out z).cell ht7
                            have g3 := fun z => (CW.out z).get hh6
                            have g4 := fun z => (CW.out z).get hh7
                            repeat (refine wpLooksG_step (fun K hK => ?_); go_simp; refine hK _ ?_; clear hK K)
                            refine wpLooksG_step (fun K hK => ?_); go_simp
                            refine ⟨_, fun z => lessHash_any e.hash was.hash (W z), hK _ ?_⟩
                            clear hK K
                            repeat (refine wpLooksG_step (fun K hK => ?_); go_simp; refine hK _ ?_; clear hK K)
                            refine wpLooksG_nil ?_
                            clear g1 g2 g3 g4 CW hne W ι
                            refine wpG_end (by kernel_rfl) (fun w7 hwd => ?_) _
                            have HB67 := Lib.hid (show Bel w6 w7 from hwd.undrew)
                            clear hwd he6 ht6 ht7 hh6 hh7 hgy
                            go_wp2_with fail
                            exact ⟨⟨j + 1, by omega, by go_num, by rw [HST.out, HU.out]; exact OwnS.step HON6.out HB67.out, HB1N6.out.trans HB67.out⟩, by simp [intOf]; omega⟩
                        · have hd1 : decide (e.time < was.time) = false := by simp; omega
                          have hd2 : (e.time == was.time) = false := by simp; omega
                          have HU := Lib.hid (step_no HBI.out hwas hwn (by unfold aheadB; rw [hd1]; simp; omega))
                          clear hgt hwas hwn hoa6 hobf hob1
                          go_wp2_with fail
                          go_big_quiet (fail)
                          go_wp2_with fail
                          exact ⟨⟨j + 1, by omega, by go_num, by rw [HST.out, HU.out]; exact OwnS.step HON6.out ((Bel.refl w6).drewN _), HB1N6.out.trans ((Bel.refl w6).drewN _)⟩, by simp [intOf]; omega⟩
          · have hjm : m = j := by omega
            subst hjm
            have HNX := Lib.hid (show OwnS wj w1.heap.size 30 u7 (outOf (bestOf last M.time S (M.proms.take (k + 1)).flatten)) by
              have h1 := flatten_take_succ M.proms HLK.out
              rw [show l.take m = l from List.take_of_length_le (by rw [← HCR.out.len, hml]; exact Nat.le_refl _)] at hown2
              rw [h1]
              exact hown2)
            have hj3 : ¬ (m : Int) < (m : Int) := by omega
            clear hown2 hb2 hb1j
            go_wp2_with fail
            exact ⟨⟨k + 1, by omega, by go_num, HNX.out, HB1J.out⟩, by simp [intOf]; omega⟩
      · have hkn : n = k := by omega
        have HNX := Lib.hid (show OwnS wi w1.heap.size 30 u7 (outOf (bestOf last M.time S M.proms.flatten)) by
          have := HO.out
          rwa [List.take_of_length_le (by rw [← HPR.out.len, hnl, hkn]; exact Nat.le_refl _)] at this)
        have hk3 : ¬ (k : Int) < (n : Int) := by omega
        clear hkn
        go_wp2_with fail
        go_meet
        exact ⟨HNX.out, HB.out⟩
  case rest =>
    obtain ⟨hown, hb⟩ := hcut
    obtain ⟨w2, rfl⟩ : ∃ w2 : World, w2 = wc := ⟨_, rfl⟩
    have hbis := bestIs last M.time S M.proms.flatten
    have hbl := bestOf_len last M.time S M.proms.flatten
    obtain ⟨L0, hL0⟩ : ∃ L0, outOf (bestOf last M.time S M.proms.flatten) = L0 := ⟨_, rfl⟩
    have HND := Lib.hid (show (L0.map (·.name)).Nodup by rw [← hL0, outOf_names hbis]; exact hbis.nodup)
    obtain ⟨q, hq⟩ : ∃ q, L0.length = q := ⟨_, rfl⟩
    have hqb : q ≤ 1000000 := by rw [← hq, ← hL0, outOf_len]; omega
    rw [hL0] at hown
    have HL0 := Lib.hid hL0
    obtain ⟨oa, oc, hov, hoa, hoc, hom⟩ := OwnS.ownA hown
    rw [hq] at hov hoc
    subst hov
    have HOW := Lib.hid hown; have HB := Lib.hid hb; have HQL := Lib.hid hq; have HOC := Lib.hid hoc; have HOM := Lib.hid hom
    clear hown hb hbis hbl hL0 hq hoa hoc hom
    go_wp2_with fail
    go_loopw [124] (fun i wr => ∃ (k : Nat) (L : List GEntry), k ≤ q ∧ i = .int .i64 k ∧ L.length = q ∧ OwnS wr w1.heap.size 30 (.slice oa q oc) L ∧ SortInv L0 k L ∧ Bel w1 wr) (fun i _ => q - (intOf i).toNat)
    case atStart => exact ⟨0, L0, by omega, rfl, HQL.out, HOW.out, ⟨List.Perm.refl _, by simp⟩, HB.out⟩
    case round =>
      obtain ⟨k, L, hk, rfl, hLl, hown, hsort, hb⟩ := hrel
      have HLl := Lib.hid hLl; have HO := Lib.hid hown; have HSO := Lib.hid hsort; have HB2 := Lib.hid hb
      clear hLl hown hsort hb
      by_cases hlt : k < q
      · have hlt2 : (k : Int) < (q : Int) := by omega
        go_wp2_with fail
        go_loopw [15] (fun i wj => ∃ (t : Nat) (L : List GEntry), t ≤ k ∧ i = .int .i64 t ∧ L.length = q ∧ OwnS wj w1.heap.size 30 (.slice oa q oc) L ∧ InsInv L0 k t L ∧ Bel w1 wj) (fun i _ => (intOf i).toNat)
        case atStart => exact ⟨k, L, Nat.le_refl _, rfl, HLl.out, HO.out, InsInv.start HSO.out (by rw [HLl.out]; exact hlt), HB2.out⟩
        case round =>
          obtain ⟨t, L, ht, rfl, hLl, hown, hins, hb⟩ := hrel
          obtain ⟨wj, rfl⟩ : ∃ wj : World, wj = wr := ⟨_, rfl⟩
          have HLj := Lib.hid hLl; have HOJ := Lib.hid hown; have HIN := Lib.hid hins; have HBJ := Lib.hid hb
          have htq : t < q := by omega
          have hoj : OwnA wj w1.heap.size 30 oa oc L := by unfold OwnA; rw [hLl]; exact hown
          obtain ⟨ob, rfl, hob1, hob2, hobf⟩ := OwnA.place hoj (by rw [hLl]; omega)
          obtain ⟨x, hx⟩ : ∃ x, L[t]? = some x := ⟨_, List.getElem?_eq_getElem (by rw [hLl]; exact htq)⟩
          have hgx : get? GEntry wj ⟨ob, t * 35, none⟩ = some x := by
            obtain ⟨od, y', hod, _, hy', hgy⟩ := hoj.sl.at_ (k := t) (by rw [hLl]; exact htq)
            injection hod with hod; subst hod
            rw [hx] at hy'; injection hy' with hy'; subst hy'
            rw [addN, Nat.zero_add] at hgy
            exact hgy
          have HGX := Lib.hid hgx; have HX := Lib.hid hx; have HOA := Lib.hid hoj; have HO1 := Lib.hid hob1; have HO2 := Lib.hid hob2; have HOF := Lib.hid hobf
          obtain ⟨r, hr⟩ : ∃ r, swapB L t = r := ⟨_, rfl⟩
          have HR := Lib.hid hr
          clear hLl hown hins hb hoj hgx hx hob1 hob2 hobf hr
          go_upto_region 28 with fail
          go_cut [171] (fun v wx => v = .bool r ∧ Bel wj wx)
          case first =>
            by_cases ht0 : t = 0
            · have hr0 : r = false := by rw [← HR.out, ht0]; rfl
              have hd0 : decide (0 < t) = false := by simp; omega
              have hd1 : decide ((0 : Int) < (t : Int)) = false := by simp; omega
              clear ht0
              subst hr0
              go_wp2_with fail
              go_big_quiet (fail)
              go_wp2_with fail
              go_meet
              exact ⟨rfl, (Bel.refl wj).drewN _⟩
            · obtain ⟨t1, ht1⟩ : ∃ t1, t = t1 + 1 := ⟨t - 1, by omega⟩
              obtain ⟨p, hp⟩ : ∃ p, L[t1]? = some p := ⟨_, List.getElem?_eq_getElem (by rw [HLj.out]; omega)⟩
              have hgp : get? GEntry wj ⟨ob, t1 * 35, none⟩ = some p := by
                obtain ⟨od, y', hod, _, hy', hgy⟩ := HOA.out.sl.at_ (k := t1) (by rw [HLj.out]; omega)
                injection hod with hod; subst hod
                rw [hp] at hy'; injection hy' with hy'; subst hy'
                rw [addN, Nat.zero_add] at hgy
                exact hgy
              have hrr : (decide (x.time < p.time) || (decide (x.time = p.time) && lessB x.name p.name)) = r := by
                rw [← HR.out, ht1]
                have hx1 := HX.out
                rw [ht1] at hx1
                exact (swapB_at hx1 hp).symm
              have hx1 := HGX.out
              have kx : wj.cell? ⟨ob, t * 35 + 34, none⟩ = some (.int .u64 x.time) := cell_off (by omega) (GEntry.at_time hx1)
              have kp : wj.cell? ⟨ob, t1 * 35 + 34, none⟩ = some (.int .u64 p.time) := cell_off (by omega) (GEntry.at_time hgp)
              have kxn : get? GName wj ⟨ob, t * 35, none⟩ = some x.name := by have := GEntry.at_name hx1; rwa [Addr.add_zero'] at this
              have kpn : get? GName wj ⟨ob, t1 * 35, none⟩ = some p.name := by have := GEntry.at_name hgp; rwa [Addr.add_zero'] at this
              have hd0 : decide (0 < t) = true := by simp; omega
              have hd1 : 0 < t := by omega
              have hd2 : decide ((0 : Int) < (t : Int)) = true := by simp; omega
              have htw : IntKind.i64.wrap ((t : Int) - 1) = (t1 : Int) := by rw [IntWalk.i64_in _ (by omega)]; omega
              have hti0 : (0 : Int) ≤ (t1 : Int) := by omega
              have hti1 : (t1 : Int) < (q : Int) := by omega
              have hti2 : (0 : Int) ≤ (t : Int) := by omega
              have hti3 : (t : Int) < (q : Int) := by omega
              clear ht1 ht0 hp hgp hx1
              rcases Int.lt_trichotomy x.time p.time with hlt | heq | hgt
              · have he1 : decide (x.time < p.time) = true := by simpa using hlt
                rw [he1, Bool.true_or] at hrr
                subst hrr
                clear hlt
                go_wp2_with fail
                go_big_quiet (fail)
                go_wp2_with fail
                go_meet
                exact ⟨rfl, (Bel.refl wj).drewN _⟩
              · have he1 : decide (x.time < p.time) = false := by simp; omega
                have he2 : (x.time == p.time) = true := by simpa using heq
                have he3 : decide (x.time = p.time) = true := by simpa using heq
                rw [he1, he3, Bool.false_or, Bool.true_and] at hrr
                clear heq he3
                go_wp2_with fail
                refine wp_region_G GB [] GB.rf (by kernel_rfl) ?_
                refine wpG_looks 0 44 [0,1,2,3,4,5,6,7,8,9,10,11,12,13,14,15,16,17,18,19,20,21,22,23,24,25,26,27,28,29,30,31,32,33,34,35,36,37,38,39,40,41,42,43] rfl GB.rf GB.tr (by kernel_rfl) (fun _ _ _ _ hd h => And.intro (hd ▸ And.left h) (And.right h)) rfl (by kernel_rfl) ?_
                intro ι W hne CW
                have g1 := fun z => (CW.out z).cell kx
                have g2 := fun z => (CW.out z).cell kp
                have g3 := fun z => (CW.out z).get kxn
                have g4 := fun z => (CW.out z).get kpn
                repeat (refine wpLooksG_step (fun K hK => ?_); go_simp; refine hK _ ?_; clear hK K)
                refine wpLooksG_step (fun K hK => ?_); go_simp
                refine ⟨_, fun z => less_any x.name p.name (W z), hK _ ?_⟩
                clear hK K
                repeat (refine wpLooksG_step (fun K hK => ?_); go_simp; refine hK _ ?_; clear hK K)
                refine wpLooksG_nil ?_
                clear g1 g2 g3 g4 CW hne W ι
                refine wpG_end (by kernel_rfl) (fun wd hwd => ?_) _
                go_wp2_with fail
                go_meet
                exact ⟨rfl, hwd.undrew⟩
              · have he1 : decide (x.time < p.time) = false := by simp; omega
                have he2 : (x.time == p.time) = false := by simp; omega
                have he3 : decide (x.time = p.time) = false := by simp; omega
                rw [he1, he3, Bool.false_or, Bool.false_and] at hrr
                subst hrr
                clear hgt he3
                go_wp2_with fail
                go_big_quiet (fail)
                go_wp2_with fail
                go_meet
                exact ⟨rfl, (Bel.refl wj).drewN _⟩
          case rest =>
            obtain ⟨rfl, hbx⟩ := hcut
            obtain ⟨w5, rfl⟩ : ∃ w5 : World, w5 = wc := ⟨_, rfl⟩
            have HBX := Lib.hid hbx
            cases r with
            | false =>
              have HST := Lib.hid (InsInv.stop HIN.out HND.out (swapB_false HX.out HR.out))
              clear hbx
              go_wp2_with fail
              exact ⟨⟨k + 1, L, by omega, by go_num, HLj.out, OwnS.step HOJ.out HBX.out, HST.out, HBJ.out.trans HBX.out⟩, by simp [intOf]; omega⟩
            | true =>
              obtain ⟨t1, p, ht1, hp, hxp⟩ := swapB_true HX.out HR.out
              have hoj := OwnA.stepB HOA.out HBX.out
              have hL' := HLj.out
              have hp1 : t1 < q := by omega
              obtain ⟨ho7, hfree7⟩ := hoj.put (k := t) (by rw [hL']; exact htq) p
              obtain ⟨ho8, hfree8⟩ := ho7.put (k := t1) (by rw [List.length_set, hL']; exact hp1) x
              have hgx5 : get? GEntry w5 ⟨ob, t * 35, none⟩ = some x := GB.get hbx HGX.out
              have hgp5 : get? GEntry w5 ⟨ob, t1 * 35, none⟩ = some p := by
                obtain ⟨od, y', hod, _, hy', hgy⟩ := hoj.sl.at_ (k := t1) (by rw [hL']; exact hp1)
                injection hod with hod; subst hod
                rw [hp] at hy'; injection hy' with hy'; subst hy'
                rw [addN, Nat.zero_add] at hgy
                exact hgy
              have hgp7 : get? GEntry (World.putCells w5 ⟨ob, t * 35, none⟩ (GEntry.enc p)) ⟨ob, t1 * 35, none⟩ = some p := by
                obtain ⟨od, y', hod, _, hy', hgy⟩ := ho7.sl.at_ (k := t1) (by rw [List.length_set, hL']; exact hp1)
                injection hod with hod; subst hod
                rw [List.getElem?_set_ne (by omega), hp] at hy'; injection hy' with hy'; subst hy'
                rw [addN, Nat.zero_add] at hgy
                exact hgy
              have hfree5 : blkFree w5 ob = true := (blkFree_keep (hbx.block _ HO2.out)).trans HOF.out
              have hfree2 : blkFree (World.putCells w5 ⟨ob, t * 35, none⟩ (GEntry.enc p)) ob = true := hfree7
              have hb8 := putCells_below (o := t1 * 35) (putCells_below (o := t * 35) (HBJ.out.trans hbx) HO1.out (Enc.enc p)) HO1.out (Enc.enc x)
              have HO8 := Lib.hid (show OwnS (World.putCells (World.putCells w5 ⟨ob, t * 35, none⟩ (GEntry.enc p)) ⟨ob, t1 * 35, none⟩ (GEntry.enc x)) w1.heap.size 30 (.slice (some ⟨ob, 0, none⟩) q oc) ((L.set t p).set t1 x) by
                unfold OwnA at ho8
                rw [List.length_set, List.length_set, hL'] at ho8
                exact ho8)
              have HB8 := Lib.hid (show Bel w1 (World.putCells (World.putCells w5 ⟨ob, t * 35, none⟩ (GEntry.enc p)) ⟨ob, t1 * 35, none⟩ (GEntry.enc x)) from hb8)
              have HI8 := Lib.hid (show InsInv L0 k t1 ((L.set t p).set t1 x) by
                have h1 := HIN.out; have h2 := HX.out
                rw [ht1] at h1 h2 ⊢
                exact InsInv.swap h1 h2 hp hxp)
              have HL8 := Lib.hid (show ((L.set t p).set t1 x).length = q by rw [List.length_set, List.length_set, hL'])
              have htw : IntKind.i64.wrap ((t : Int) - 1) = (t1 : Int) := by rw [IntWalk.i64_in _ (by omega)]; omega
              have htm : (t : Int) - 1 = (t1 : Int) := by omega
              have hti0 : (0 : Int) ≤ (t1 : Int) := by omega
              have hti1 : (t1 : Int) < (q : Int) := by omega
              have hti2 : (0 : Int) ≤ (t : Int) := by omega
              have hti3 : (t : Int) < (q : Int) := by omega
              have htle : t1 ≤ k := by omega
              have htlt : t1 < t := by omega
              clear ho7 ho8 hfree7 hfree8 hoj hb8 hp hL' hbx ht1 hxp
              go_wp2_with fail
              go_region
              obtain ⟨w8, hw8⟩ : ∃ w8, World.putCells (World.putCells w5 ⟨ob, t * 35, none⟩ (GEntry.enc p)) ⟨ob, t1 * 35, none⟩ (GEntry.enc x) = w8 := ⟨_, rfl⟩
              rw [hw8] at HO8 HB8 ⊢
              clear hgx5 hgp5 hgp7 hfree5 hfree2 hw8
              go_wp2_with fail
              exact ⟨⟨t1, (L.set t p).set t1 x, htle, by first | rfl | go_num, HL8.out, HO8.out, HI8.out, HB8.out.drew⟩, by simp [intOf]; omega⟩
      · have hkq : q = k := by omega
        have hk3 : ¬ (k : Int) < (q : Int) := by omega
        have HEN := Lib.hid (show EntriesOf last S M L from SortInv.entries (by rw [HL0.out, HLl.out, hkq]; exact HSO.out))
        clear hkq
        go_wp2_with fail
        go_ret
        exact ⟨L, ⟨oa, q, oc⟩, rfl, HEN.out, (own_s HO.out HLl.out).mono (fun z _ hz => by omega), BL.out.trans HB2.out⟩
end Go.Proofs.Yteockodnfempfaa
/- The document's ledger: a place written, a field written, a place put behind, its list in new memory. Conditions: those named in each theorem. -/
namespace Go.Proofs.Yteockodnfempfaa
open Go Go.RowKit Go.Gv Go.Sort

theorem rplace_status (x : GRef15Place) (st : Int) : Enc.enc (⟨x.e, st, x.payload⟩ : GRef15Place) = (Enc.enc x).set 35 (.int .i64 st) := by
  change GRef15Place.enc _ = (GRef15Place.enc x).set 35 _
  unfold GRef15Place.enc
  rw [List.set_append_right _ _ (by rw [GEntry.enc_len]; omega), GEntry.enc_len]
  rfl
theorem rplace_payload (x : GRef15Place) (h : Hdr) : Enc.enc (⟨x.e, x.status, h⟩ : GRef15Place) = (Enc.enc x).set 36 h.val := by
  change GRef15Place.enc _ = (GRef15Place.enc x).set 36 _
  unfold GRef15Place.enc
  rw [List.set_append_right _ _ (by rw [GEntry.enc_len]; omega), GEntry.enc_len]
  rfl
/-- What the ledger's block says of its places. -/
def RHdAt (w : World) (g pb : Nat) (M : MLedger) : Prop := ∃ c, get? GRef15Ledger w ⟨g, 0, none⟩ = some ⟨M.epoch, M.last, ⟨some ⟨pb, 0, none⟩, M.l.length, c⟩, M.done⟩
theorem RHdAt.bel {w w' : World} {g pb : Nat} {M : MLedger} (h : RHdAt w g pb M) (hb : Bel w w') : RHdAt w' g pb M := by
  obtain ⟨c, h⟩ := h
  exact ⟨c, GB.get hb h⟩
theorem RefIs.poke1 {w : World} {g : Nat} {S U U' : Nat → Prop} {M : MLedger} (h : RefIs w g S U M) {d j : Nat} {m m' : MPlace} (hm : M.l[d]? = some m) {v : Value} {pb : Nat} (hj : j < 37)
    (hpb : RHdAt w g pb M) (hU : ∀ k, U k → U' k) (hU' : ∀ k, U' k → k < w.heap.size)
    (hy : ∀ x, RPlaceIs (fun k => U k ∧ ¬ S k) w x m → S pb → ∃ y : GRef15Place, Enc.enc y = (Enc.enc x).set j v ∧ RPlaceIs (fun k => U' k ∧ ¬ S k) (w.setCell ⟨pb, d * 37 + j, none⟩ v) y m') :
    RefIs (w.setCell ⟨pb, d * 37 + j, none⟩ v) g S U' { M with l := M.l.set d m' } ∧ Chg S w (w.setCell ⟨pb, d * 37 + j, none⟩ v) ∧ RHdAt (w.setCell ⟨pb, d * 37 + j, none⟩ v) g pb { M with l := M.l.set d m' } := by
  obtain ⟨c, hpb⟩ := hpb
  obtain ⟨hd, ps, rfl, hSU, hg, hf, ho, hne, hr⟩ := h
  rw [hg] at hpb
  injection hpb with hpb
  injection hpb with _ _ ehd _
  have hob : hd.val.ownBlock = some pb := by rw [ehd]; rfl
  have hdl : d < ps.length := by rw [hr.len]; exact (List.getElem?_eq_some_iff.1 hm).1
  obtain ⟨x, hx⟩ : ∃ x, ps[d]? = some x := ⟨_, List.getElem?_eq_getElem hdl⟩
  obtain ⟨m0, hm0, hpl⟩ := hr.at_ hx
  rw [hm] at hm0; injection hm0 with hm0; subst hm0
  obtain ⟨y, hye, hyp⟩ := hy x hpl (.inr hob)
  have hv2 : hd.val = .slice (some ⟨pb, 0, none⟩) ps.length c := by rw [ehd, hr.len]; rfl
  have ho2 : OwnA w 0 175 (some ⟨pb, 0, none⟩) c ps := by unfold OwnA; rw [← hv2]; exact ho
  have hc : Chg (fun k => k = pb) w (w.setCell ⟨pb, d * 37 + j, none⟩ v) := Chg.setCell (S := fun k => k = pb) (p := ⟨pb, d * 37 + j, none⟩) rfl _
  have ho3 := OwnA.poke (j := j) (y := y) (v := v) ho2 hx hj hye
  have hlen : (ps.set d y).length = ps.length := List.length_set
  have hgn : get? GRef15Ledger (w.setCell ⟨pb, d * 37 + j, none⟩ v) ⟨g, 0, none⟩ = some ⟨M.epoch, M.last, hd, M.done⟩ := hc.get hg (fun e => hne (by rw [hob]; exact congrArg some (Eq.symm e)))
  refine ⟨⟨hd, ps.set d y, rfl, ⟨fun k hk => hU k (hSU.1 k hk), fun k hk => Nat.lt_of_lt_of_le (hU' k hk) hc.size⟩, hgn, ?_, ?_, hne, ?_⟩, hc.sub (fun k e => .inr (by rw [hob, e])), ⟨c, ?_⟩⟩
  · exact hc.free hf (get?_lt hg) (fun e => hne (by rw [hob, e]))
  · have := ho3
    unfold OwnA at this
    rw [hlen] at this
    rw [hv2]
    exact this
  · have hr2 : R2 (RPlaceIs (fun k => U' k ∧ ¬ footR g hd k) (w.setCell ⟨pb, d * 37 + j, none⟩ v)) ps M.l :=
      hr.mono fun a b hab => ⟨hab.1, hab.2.1, (hab.2.2.chg hc (fun k hk e => hk.2 (.inr (by rw [hob, e])))).mono (fun k _ hk => ⟨hU k hk.1, hk.2⟩)⟩
    exact hr2.set hyp d
  · rw [hgn, ehd]
    simp
theorem RefIs.field {w : World} {g : Nat} {S U : Nat → Prop} {M M' : MLedger} (h : RefIs w g S U M) (hl : M'.l = M.l) {j : Nat} {v : Value}
    (he : ∀ hd, Enc.enc (⟨M'.epoch, M'.last, hd, M'.done⟩ : GRef15Ledger) = (Enc.enc (⟨M.epoch, M.last, hd, M.done⟩ : GRef15Ledger)).set j v) :
    RefIs (w.setCell ⟨g, j, none⟩ v) g S U M' ∧ Chg (fun k => k = g) w (w.setCell ⟨g, j, none⟩ v) := by
  obtain ⟨hd, ps, rfl, hSU, hg, hf, ho, hne, hr⟩ := h
  have hc : Chg (fun k => k = g) w (w.setCell ⟨g, j, none⟩ v) := Chg.setCell (S := fun k => k = g) (p := ⟨g, j, none⟩) rfl v
  refine ⟨⟨hd, ps, rfl, ⟨hSU.1, by simpa using hSU.2⟩, get?_poke hg (he hd), by rw [blkFree_setCell]; exact hf, ho.chg hc (fun k hk e => hne (by rw [hk, e])), hne, ?_⟩, hc⟩
  rw [hl]
  exact hr.mono fun a b hab => ⟨hab.1, hab.2.1, hab.2.2.chg hc (fun k hk e => hk.2 (.inl e))⟩
/-- Its list is another one. -/
theorem RefIs.list_put {w w' : World} {g : Nat} {U : Nat → Prop} {M : MLedger} {hd hd' : Hdr} {ps : List GRef15Place} {ms : List MPlace} {row : Option Nat} (hg : get? GRef15Ledger w ⟨g, 0, none⟩ = some ⟨M.epoch, M.last, hd, M.done⟩) (hf : blkFree w g = true) (hUlt : ∀ k, U k → k < w.heap.size) (hgU : U g)
    (hgr : w.grownBy w' row) (hrow : row ≠ some g) (ho : OwnS w' 0 175 hd'.val ps) (hne : hd'.val.ownBlock ≠ some g)
    (hr : R2 (RPlaceIs (fun k => U k ∧ k ≠ g ∧ hd'.val.ownBlock ≠ some k) w') ps ms) :
    RefIs (w'.setCell ⟨g, 2, none⟩ hd'.val) g (footR g hd') (fun k => U k ∨ hd'.val.ownBlock = some k) { M with l := ms } ∧ w'.cell? ⟨g, 2, none⟩ = some hd.val ∧ blkFree w' g = true := by
  have hgl := get?_lt hg
  simp only at hgl
  have hgc : Chg (fun k => row = some k) w w' := Chg.of_grown hgr (fun k h => h)
  have hg' := hgc.get hg (fun e => hrow e)
  have hf' := hgc.free hf hgl (fun e => hrow e)
  have hc : Chg (fun k => k = g) w' (w'.setCell ⟨g, 2, none⟩ hd'.val) := Chg.setCell (S := fun k => k = g) (p := ⟨g, 2, none⟩) rfl _
  refine ⟨⟨hd', ps, rfl, ⟨?_, ?_⟩, ?_, by rw [blkFree_setCell]; exact hf', ho.chg hc (fun k hk e => hne (by rw [hk, e])), hne, ?_⟩, ?_, hf'⟩
  · rintro k (rfl | h)
    · exact .inl hgU
    · exact .inr h
  · rintro k (h | h)
    · exact Nat.lt_of_lt_of_le (hUlt k h) (Nat.le_trans hgr.size hc.size)
    · exact Nat.lt_of_lt_of_le (ho.lt k h).2 hc.size
  · exact get?_poke hg' rfl
  · refine hr.mono fun a b hab => ⟨hab.1, hab.2.1, (hab.2.2.chg hc (fun k hk e => hk.2.1 e)).mono (fun k _ hk => ⟨.inl hk.1, ?_⟩)⟩
    rintro (h | h)
    · exact hk.2.1 h
    · exact hk.2.2 h
  · have := GRef15Ledger.at_l hg'
    simpa using cell_off (by omega) this
def OpenE (M : MLedger) : Prop := ∀ m ∈ M.l, m.status = 1 → m.pay = []
theorem OpenE.endM {M : MLedger} {i st : Int} {pay : List U8} (h : OpenE M) (hs : st ≠ 1) : OpenE (Go.Proofs.Yteockodnfempfaa.endM M i st pay) := endM_all (P := fun m => m.status = 1 → m.pay = []) h fun _ _ e => absurd e hs
theorem OpenE.openF {M : MLedger} (h : OpenE M) (l : List (Int × List U8)) : OpenE (Go.Proofs.Yteockodnfempfaa.openF M l) := by
  induction l generalizing M with
  | nil => exact h
  | cons o l ih => exact ih (h.endM (by decide))
theorem OpenE.tombF {M : MLedger} (h : OpenE M) (l : List Int) : OpenE (Go.Proofs.Yteockodnfempfaa.tombF M l) := by
  induction l generalizing M with
  | nil => exact h
  | cons o l ih => exact ih (h.endM (by decide))
theorem OpenE.applied {M : MLedger} (h : OpenE M) (B : MBatch) (es : List GEntry) : OpenE (appliedM M B es) := by
  intro m hm
  have hm' : m ∈ (endedM M B).l ++ es.map newP := hm
  rw [List.mem_append] at hm'
  rcases hm' with hm' | hm'
  · exact OpenE.tombF (OpenE.openF h B.opens) B.tombs m hm'
  · rw [List.mem_map] at hm'
    obtain ⟨e, _, rfl⟩ := hm'
    exact fun _ => rfl
theorem endM_not {M : MLedger} {i st : Int} {pay : List U8} (h : (inB M i && stOpen M i) = false) : endM M i st pay = M := by
  unfold endM
  rw [if_neg]
  rintro ⟨h1, h2⟩
  rw [h1, h2] at h
  cases h
theorem endM_at {M : MLedger} {d : Nat} {st : Int} {pay : List U8} {m : MPlace} (hm : M.l[d]? = some m) (h : (inB M (d : Int) && stOpen M (d : Int)) = true) : endM M (d : Int) st pay = { M with l := M.l.set d ⟨m.e, st, pay⟩ } ∧ m.status = 1 := by
  rw [Bool.and_eq_true] at h
  refine ⟨?_, ?_⟩
  · unfold endM
    rw [if_pos h, Int.toNat_natCast, hm]
  · have := h.2
    unfold stOpen at this
    rw [Int.toNat_natCast, hm] at this
    simpa using this
end Go.Proofs.Yteockodnfempfaa
