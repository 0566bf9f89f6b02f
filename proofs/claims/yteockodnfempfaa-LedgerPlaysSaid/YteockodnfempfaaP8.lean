/- The struct types of this seat as Lean types, with the runs of single operations over them. Conditions: those named in each theorem. -/
import Derived.Test.YteockodnfempfaaP2
/- The struct types of this seat as Lean types, with the runs of single operations over them. Conditions: those named in each theorem. -/
namespace Go.Proofs.Yteockodnfempfaa
open Go Go.RowKit Go.Gv
set_option linter.unusedSimpArgs false

theorem na70 : aggT Try.prog 70 = false := by kernel_rfl
theorem us70 : (Try.prog.underlying 70).isSome = true := by kernel_rfl
theorem na71 : aggT Try.prog 71 = false := by kernel_rfl
theorem us71 : (Try.prog.underlying 71).isSome = true := by kernel_rfl
theorem na72 : aggT Try.prog 72 = false := by kernel_rfl
theorem us72 : (Try.prog.underlying 72).isSome = true := by kernel_rfl
theorem na79 : aggT Try.prog 79 = false := by kernel_rfl
theorem us79 : (Try.prog.underlying 79).isSome = true := by kernel_rfl
theorem na87 : aggT Try.prog 87 = false := by kernel_rfl
theorem us87 : (Try.prog.underlying 87).isSome = true := by kernel_rfl
theorem na90 : aggT Try.prog 90 = false := by kernel_rfl
theorem us90 : (Try.prog.underlying 90).isSome = true := by kernel_rfl
theorem na95 : aggT Try.prog 95 = false := by kernel_rfl
theorem us95 : (Try.prog.underlying 95).isSome = true := by kernel_rfl
theorem na110 : aggT Try.prog 110 = false := by kernel_rfl
theorem us110 : (Try.prog.underlying 110).isSome = true := by kernel_rfl
theorem na111 : aggT Try.prog 111 = false := by kernel_rfl
theorem us111 : (Try.prog.underlying 111).isSome = true := by kernel_rfl
theorem na161 : aggT Try.prog 161 = false := by kernel_rfl
theorem us161 : (Try.prog.underlying 161).isSome = true := by kernel_rfl
theorem na162 : aggT Try.prog 162 = false := by kernel_rfl
theorem us162 : (Try.prog.underlying 162).isSome = true := by kernel_rfl

/-! ### gavel/api.Conf -/
structure GConf where
  f : Int
  clients : Int
deriving DecidableEq
instance : Inhabited GConf := ⟨⟨0, 0⟩⟩
def GConf.enc (x : GConf) : List Value := [(.int .i64 x.f)] ++ ([(.int .i64 x.clients)])
theorem GConf.enc_len (x : GConf) : x.enc.length = 2 := by simp [GConf.enc]
theorem GConf.enc_one (x : GConf) : ∀ u ∈ x.enc, u.oneCell' = true := by
  intro u hu
  simp only [GConf.enc, List.mem_append, List.mem_singleton] at hu
  rcases hu with hu | hu
  · subst hu; rfl
  · subst hu; rfl
theorem GConf.enc_inj (x y : GConf) (h : x.enc = y.enc) : x = y := by
  obtain ⟨a0, a1⟩ := x
  obtain ⟨b0, b1⟩ := y
  simp only [GConf.enc] at h
  obtain ⟨p0, q0⟩ := List.append_inj h (rfl)
  have e0 : a0 = b0 := by have := List.head_eq_of_cons_eq p0; injection this
  have e1 : a1 = b1 := by have := List.head_eq_of_cons_eq q0; injection this
  rw [e0, e1]
instance : Enc GConf where
  n := 2
  enc := GConf.enc
  pos := by omega
  len := GConf.enc_len
  one := GConf.enc_one
  inj := GConf.enc_inj
@[go_sem] theorem GConf.n_eq : Enc.n GConf = 2 := rfl
@[irreducible] def GConf.val (x : GConf) : Value := .agg x.enc.toArray
theorem GConf.val_eq (x : GConf) : GConf.val x = .agg (Enc.enc x).toArray := by unfold GConf.val; rfl
theorem GConf.ext_all (x y : GConf) : x = y ↔ x.f = y.f ∧ x.clients = y.clients := by
  constructor
  · intro h; cases h; simp
  · intro h; cases x; cases y; simp_all
theorem uu109 : Try.prog.underlying 109 = some (.struct (Try.prog.fieldsOf 109)) := by kernel_rfl
theorem st109 : Try.prog.stoodInHeld 109 = false := by kernel_rfl
theorem fl109 : fieldTO Try.prog 109 = [(3, 0), (3, 1)] := by kernel_rfl
theorem nb109 : noBlank Try.prog 109 = true := by kernel_rfl
@[go_sem ↓ high] theorem xl_GConf (ρ : Operand → Value) (dst : Option Tmp) (x : Operand) (ty : TypeId) (pos : String) (after : Array Edge) (guard : Option (Nat × Bool)) : execOp ρ { dst, op := .load 109 x, type := ty, pos, after, guard } = (do pure (.value (← gLoad 109 (ρ x)))) := ex_load ..
@[go_sem ↓ high] theorem xs_GConf (ρ : Operand → Value) (dst : Option Tmp) (x y : Operand) (ty : TypeId) (pos : String) (after : Array Edge) (guard : Option (Nat × Bool)) : execOp ρ { dst, op := .store 109 x y, type := ty, pos, after, guard } = (do gStore 109 (ρ x) (ρ y); pure .skip) := ex_store ..
@[go_sem ↓ high] theorem xb_GConf (ρ : Operand → Value) (dst : Option Tmp) (x : Operand) (ty : TypeId) (pos : String) (after : Array Edge) (guard : Option (Nat × Bool)) : execOp ρ { dst, op := .box 109 x, type := ty, pos, after, guard } = (do pure (.value (← gBox 109 (ρ x)))) := ex_box ..
@[go_sem ↓ high] theorem xa_GConf (ρ : Operand → Value) (dst : Option Tmp) (ty : TypeId) (pos : String) (after : Array Edge) (guard : Option (Nat × Bool)) : execOp ρ { dst, op := .alloc 109, type := ty, pos, after, guard } = (do pure (.value (← gAlloc 109))) := ex_alloc ..
theorem ag109 : aggT Try.prog 109 = true := by kernel_rfl
theorem sz109 : sizeT Try.prog 109 = 2 := by kernel_rfl
section
variable (w : World)
@[go_sem ↓ high] theorem ld_GConf (a : Addr) : (gLoad 109 (.pointer (some a))).run Try.prog w = ofOpt ((get? GConf w a).map GConf.val) w (noLoad Try.prog 109 a w) := by
  unfold gLoad; exact run_loadAt_opt ag109 sz109 GConf.val GConf.val_eq
@[go_sem ↓ high] theorem st_GConf (a : Addr) (x : GConf) : (gStore 109 (.pointer (some a)) (GConf.val x)).run Try.prog w = okU' ((get? GConf w a).isSome && blkFree w a.block) (World.putCells w a (GConf.enc x)) (noStore Try.prog 109 (.pointer (some a)) (GConf.val x) w) := run_gStore_any sz109 GConf.val GConf.val_eq w a x
@[go_sem ↓ high] theorem bx_GConf (x : GConf) : (gBox 109 (GConf.val x)).run Try.prog w = .ok (.pointer (some ⟨w.heap.size, 0, none⟩)) (w.alloc (.cells (GConf.enc x).toArray 109)) := by
  rw [GConf.val_eq]; exact run_gBox _ w
end
theorem lk109_0 (x : GConf) : x.enc[0]? = some (.int .i64 x.f) := by
  simp [GConf.enc, List.getElem?_append]
theorem pt109_0 (w : World) (x : GConf) : (part 3 x.enc.toArray 0).run Try.prog w = .ok (.int .i64 x.f) w := run_part_one na3 us3 (lk109_0 x)
@[go_sem ↓ high] theorem fd109_0 (w : World) (x : GConf) : (gField 109 (GConf.val x) 0).run Try.prog w = .ok (.int .i64 x.f) w := by
  rw [GConf.val_eq]
  exact run_gField w uu109 (by rw [fl109]; rfl) (pt109_0 w x)
theorem lk109_1 (x : GConf) : x.enc[1]? = some (.int .i64 x.clients) := by
  simp [GConf.enc, List.getElem?_append]
theorem pt109_1 (w : World) (x : GConf) : (part 3 x.enc.toArray 1).run Try.prog w = .ok (.int .i64 x.clients) w := run_part_one na3 us3 (lk109_1 x)
@[go_sem ↓ high] theorem fd109_1 (w : World) (x : GConf) : (gField 109 (GConf.val x) 1).run Try.prog w = .ok (.int .i64 x.clients) w := by
  rw [GConf.val_eq]
  exact run_gField w uu109 (by rw [fl109]; rfl) (pt109_1 w x)
@[go_sem ↓ high] theorem xf_GConf (ρ : Operand → Value) (dst : Option Tmp) (x : Operand) (i : Nat) (ty : TypeId) (pos : String) (after : Array Edge) (guard : Option (Nat × Bool)) : execOp ρ { dst, op := .field 109 x i, type := ty, pos, after, guard } = (do pure (.value (← gField 109 (ρ x) i))) := ex_field ..
theorem zr109 : zeroT Try.prog 109 = some (.agg (GConf.enc default).toArray) := by kernel_rfl
@[go_sem ↓ high] theorem al_GConf (w : World) : (gAlloc 109).run Try.prog w = .ok (.pointer (some ⟨w.heap.size, 0, none⟩)) (w.alloc (.cells (GConf.enc default).toArray 109)) := run_zero_alloc zr109 w
@[go_sem] theorem pc_GConf (w : World) (n : Nat) (x z : GConf) (hn : n = w.heap.size) : World.putCells (w.alloc (.cells (GConf.enc z).toArray 109)) ⟨n, 0, none⟩ (GConf.enc x) = w.alloc (.cells (GConf.enc x).toArray 109) := putCells_top x z hn
theorem GConf.at_f {w : World} {a : Addr} {x : GConf} (h : get? GConf w a = some x) : w.cell? (a.add 0) = some (.int .i64 x.f) := (get?_iff.1 h) _ _ (lk109_0 x)
theorem GConf.at_clients {w : World} {a : Addr} {x : GConf} (h : get? GConf w a = some x) : w.cell? (a.add 1) = some (.int .i64 x.clients) := (get?_iff.1 h) _ _ (lk109_1 x)
@[go_sem] theorem nl109_0 (x : GConf) : x.enc[0]? = some (.int .i64 x.f) := by
  have h := (GConf.at_f (get?_new (w := (default : World)) 109 x))
  simp only [Addr.add_lit, Nat.zero_add, Nat.reduceAdd, World.cell?_alloc_new, List.getElem?_toArray] at h
  exact h
@[go_sem] theorem nl109_1 (x : GConf) : x.enc[1]? = some (.int .i64 x.clients) := by
  have h := (GConf.at_clients (get?_new (w := (default : World)) 109 x))
  simp only [Addr.add_lit, Nat.zero_add, Nat.reduceAdd, World.cell?_alloc_new, List.getElem?_toArray] at h
  exact h
@[go_sem] theorem nw109 (w : World) (n : Nat) (x : GConf) (hn : n = w.heap.size) : get? GConf (w.alloc (.cells (GConf.enc x).toArray 109)) ⟨n, 0, none⟩ = some x := by
  subst hn; exact get?_new 109 x
theorem eq_GConf (w : World) (d : Nat) (x y : GConf) : (Op.equalIn (d + 2) 109 (GConf.val x) (GConf.val y)).run Try.prog w = .ok (decide (x = y)) w := by
  have q0 : ∀ a b, (Op.equalIn (d + 1) 3 (.int .i64 a) (.int .i64 b)).run Try.prog w = .ok (decide (a = b)) w := fun a b => by rw [run_equalIn_int w (d + 0) 3 .i64 .i64 a b uk3]; congr 1
  have q1 : ∀ a b, (Op.equalIn (d + 1) 3 (.int .i64 a) (.int .i64 b)).run Try.prog w = .ok (decide (a = b)) w := fun a b => by rw [run_equalIn_int w (d + 0) 3 .i64 .i64 a b uk3]; congr 1
  have h := run_equalIn_fields (d + 1) x.enc.toArray y.enc.toArray w uu109 st109 nb109
  rw [fl109] at h
  unfold GConf.val
  refine h.trans ?_
  clear h
  simp only [eqFs, Sem.run_bind, pt109_0, pt109_1, q0, q1, Result.andThen_ok, Sem.run_ite, Sem.run_pure]
  have he : decide (x = y) = (decide (x.f = y.f) && (decide (x.clients = y.clients))) := by
    rw [Bool.eq_iff_iff]; simp only [Bool.and_eq_true, decide_eq_true_eq]; exact GConf.ext_all x y
  rw [he]
  generalize decide (x.f = y.f) = c0; generalize decide (x.clients = y.clients) = c1
  cases c0 <;> cases c1 <;> simp
@[go_sem ↓ high] theorem xq_GConf (ρ : Operand → Value) (dst : Option Tmp) (x y : Operand) (ty yt : TypeId) (pos : String) (after : Array Edge) (guard : Option (Nat × Bool)) : execOp ρ { dst, op := .binOp .eql 109 x y yt, type := ty, pos, after, guard } = (do pure (.value (← gBin .eql 109 x y (ρ x) (ρ y)))) := ex_eql ..
@[go_sem ↓ high] theorem xn_GConf (ρ : Operand → Value) (dst : Option Tmp) (x y : Operand) (ty yt : TypeId) (pos : String) (after : Array Edge) (guard : Option (Nat × Bool)) : execOp ρ { dst, op := .binOp .neq 109 x y yt, type := ty, pos, after, guard } = (do pure (.value (← gBin .neq 109 x y (ρ x) (ρ y)))) := ex_neq ..
theorem eg_GConf : Try.prog.eqGuardType Try.prog.depth 109 = false := by kernel_rfl
@[go_sem ↓ high] theorem eql_GConf (w : World) (ox oy : Operand) (x y : GConf) : (gBin .eql 109 ox oy (GConf.val x) (GConf.val y)).run Try.prog w = .ok (.bool (decide (x = y))) w := by
  have h2 := eq_GConf w 9998 x y
  rw [GConf.val_eq, GConf.val_eq] at h2 ⊢
  have h := run_eqGuard_agg (P := Try.prog) w .eql 109 ox oy (Enc.enc x).toArray (Enc.enc y).toArray eg_GConf
  unfold gBin
  simp only [Sem.run_bind, h, Result.andThen_ok, run_eql_struct, h2]
@[go_sem ↓ high] theorem neq_GConf (w : World) (ox oy : Operand) (x y : GConf) : (gBin .neq 109 ox oy (GConf.val x) (GConf.val y)).run Try.prog w = .ok (.bool (!decide (x = y))) w := by
  have h2 := eq_GConf w 9998 x y
  rw [GConf.val_eq, GConf.val_eq] at h2 ⊢
  have h := run_eqGuard_agg (P := Try.prog) w .neq 109 ox oy (Enc.enc x).toArray (Enc.enc y).toArray eg_GConf
  unfold gBin
  simp only [Sem.run_bind, h, Result.andThen_ok, run_neq_struct, h2]

/-! ### gavel/ledger.Ledger -/
structure GLedgerLedger where
  epoch : Int
  last : Int
  l : Hdr
  names : Option Nat
  done : Int
deriving DecidableEq
instance : Inhabited GLedgerLedger := ⟨⟨0, 0, default, none, 0⟩⟩
def GLedgerLedger.enc (x : GLedgerLedger) : List Value := [(.int .i64 x.epoch)] ++ ([(.int .u64 x.last)] ++ ([(x.l.val)] ++ ([(.map x.names)] ++ ([(.int .i64 x.done)]))))
theorem GLedgerLedger.enc_len (x : GLedgerLedger) : x.enc.length = 5 := by simp [GLedgerLedger.enc]
theorem GLedgerLedger.enc_one (x : GLedgerLedger) : ∀ u ∈ x.enc, u.oneCell' = true := by
  intro u hu
  simp only [GLedgerLedger.enc, List.mem_append, List.mem_singleton] at hu
  rcases hu with hu | hu | hu | hu | hu
  · subst hu; rfl
  · subst hu; rfl
  · subst hu; rfl
  · subst hu; rfl
  · subst hu; rfl
theorem GLedgerLedger.enc_inj (x y : GLedgerLedger) (h : x.enc = y.enc) : x = y := by
  obtain ⟨a0, a1, a2, a3, a4⟩ := x
  obtain ⟨b0, b1, b2, b3, b4⟩ := y
  simp only [GLedgerLedger.enc] at h
  obtain ⟨p0, q0⟩ := List.append_inj h (rfl)
  have e0 : a0 = b0 := by have := List.head_eq_of_cons_eq p0; injection this
  obtain ⟨p1, q1⟩ := List.append_inj q0 (rfl)
  have e1 : a1 = b1 := by have := List.head_eq_of_cons_eq p1; injection this
  obtain ⟨p2, q2⟩ := List.append_inj q1 (rfl)
  have e2 : a2 = b2 := Enc.inj (α := Hdr) _ _ p2
  obtain ⟨p3, q3⟩ := List.append_inj q2 (rfl)
  have e3 : a3 = b3 := by have := List.head_eq_of_cons_eq p3; injection this
  have e4 : a4 = b4 := by have := List.head_eq_of_cons_eq q3; injection this
  rw [e0, e1, e2, e3, e4]
instance : Enc GLedgerLedger where
  n := 5
  enc := GLedgerLedger.enc
  pos := by omega
  len := GLedgerLedger.enc_len
  one := GLedgerLedger.enc_one
  inj := GLedgerLedger.enc_inj
@[go_sem] theorem GLedgerLedger.n_eq : Enc.n GLedgerLedger = 5 := rfl
@[irreducible] def GLedgerLedger.val (x : GLedgerLedger) : Value := .agg x.enc.toArray
theorem GLedgerLedger.val_eq (x : GLedgerLedger) : GLedgerLedger.val x = .agg (Enc.enc x).toArray := by unfold GLedgerLedger.val; rfl
theorem GLedgerLedger.ext_all (x y : GLedgerLedger) : x = y ↔ x.epoch = y.epoch ∧ x.last = y.last ∧ x.l = y.l ∧ x.names = y.names ∧ x.done = y.done := by
  constructor
  · intro h; cases h; simp
  · intro h; cases x; cases y; simp_all
theorem uu164 : Try.prog.underlying 164 = some (.struct (Try.prog.fieldsOf 164)) := by kernel_rfl
theorem st164 : Try.prog.stoodInHeld 164 = false := by kernel_rfl
theorem fl164 : fieldTO Try.prog 164 = [(3, 0), (28, 1), (162, 2), (161, 3), (3, 4)] := by kernel_rfl
theorem nb164 : noBlank Try.prog 164 = true := by kernel_rfl
@[go_sem ↓ high] theorem xl_GLedgerLedger (ρ : Operand → Value) (dst : Option Tmp) (x : Operand) (ty : TypeId) (pos : String) (after : Array Edge) (guard : Option (Nat × Bool)) : execOp ρ { dst, op := .load 164 x, type := ty, pos, after, guard } = (do pure (.value (← gLoad 164 (ρ x)))) := ex_load ..
@[go_sem ↓ high] theorem xs_GLedgerLedger (ρ : Operand → Value) (dst : Option Tmp) (x y : Operand) (ty : TypeId) (pos : String) (after : Array Edge) (guard : Option (Nat × Bool)) : execOp ρ { dst, op := .store 164 x y, type := ty, pos, after, guard } = (do gStore 164 (ρ x) (ρ y); pure .skip) := ex_store ..
@[go_sem ↓ high] theorem xb_GLedgerLedger (ρ : Operand → Value) (dst : Option Tmp) (x : Operand) (ty : TypeId) (pos : String) (after : Array Edge) (guard : Option (Nat × Bool)) : execOp ρ { dst, op := .box 164 x, type := ty, pos, after, guard } = (do pure (.value (← gBox 164 (ρ x)))) := ex_box ..
@[go_sem ↓ high] theorem xa_GLedgerLedger (ρ : Operand → Value) (dst : Option Tmp) (ty : TypeId) (pos : String) (after : Array Edge) (guard : Option (Nat × Bool)) : execOp ρ { dst, op := .alloc 164, type := ty, pos, after, guard } = (do pure (.value (← gAlloc 164))) := ex_alloc ..
theorem ag164 : aggT Try.prog 164 = true := by kernel_rfl
theorem sz164 : sizeT Try.prog 164 = 5 := by kernel_rfl
section
variable (w : World)
@[go_sem ↓ high] theorem ld_GLedgerLedger (a : Addr) : (gLoad 164 (.pointer (some a))).run Try.prog w = ofOpt ((get? GLedgerLedger w a).map GLedgerLedger.val) w (noLoad Try.prog 164 a w) := by
  unfold gLoad; exact run_loadAt_opt ag164 sz164 GLedgerLedger.val GLedgerLedger.val_eq
@[go_sem ↓ high] theorem st_GLedgerLedger (a : Addr) (x : GLedgerLedger) : (gStore 164 (.pointer (some a)) (GLedgerLedger.val x)).run Try.prog w = okU' ((get? GLedgerLedger w a).isSome && blkFree w a.block) (World.putCells w a (GLedgerLedger.enc x)) (noStore Try.prog 164 (.pointer (some a)) (GLedgerLedger.val x) w) := run_gStore_any sz164 GLedgerLedger.val GLedgerLedger.val_eq w a x
@[go_sem ↓ high] theorem bx_GLedgerLedger (x : GLedgerLedger) : (gBox 164 (GLedgerLedger.val x)).run Try.prog w = .ok (.pointer (some ⟨w.heap.size, 0, none⟩)) (w.alloc (.cells (GLedgerLedger.enc x).toArray 164)) := by
  rw [GLedgerLedger.val_eq]; exact run_gBox _ w
end
theorem lk164_0 (x : GLedgerLedger) : x.enc[0]? = some (.int .i64 x.epoch) := by
  simp [GLedgerLedger.enc, List.getElem?_append]
theorem pt164_0 (w : World) (x : GLedgerLedger) : (part 3 x.enc.toArray 0).run Try.prog w = .ok (.int .i64 x.epoch) w := run_part_one na3 us3 (lk164_0 x)
@[go_sem ↓ high] theorem fd164_0 (w : World) (x : GLedgerLedger) : (gField 164 (GLedgerLedger.val x) 0).run Try.prog w = .ok (.int .i64 x.epoch) w := by
  rw [GLedgerLedger.val_eq]
  exact run_gField w uu164 (by rw [fl164]; rfl) (pt164_0 w x)
theorem lk164_1 (x : GLedgerLedger) : x.enc[1]? = some (.int .u64 x.last) := by
  simp [GLedgerLedger.enc, List.getElem?_append]
theorem pt164_1 (w : World) (x : GLedgerLedger) : (part 28 x.enc.toArray 1).run Try.prog w = .ok (.int .u64 x.last) w := run_part_one na28 us28 (lk164_1 x)
@[go_sem ↓ high] theorem fd164_1 (w : World) (x : GLedgerLedger) : (gField 164 (GLedgerLedger.val x) 1).run Try.prog w = .ok (.int .u64 x.last) w := by
  rw [GLedgerLedger.val_eq]
  exact run_gField w uu164 (by rw [fl164]; rfl) (pt164_1 w x)
theorem lk164_2 (x : GLedgerLedger) : x.enc[2]? = some (x.l.val) := by
  simp [GLedgerLedger.enc, List.getElem?_append]
theorem pt164_2 (w : World) (x : GLedgerLedger) : (part 162 x.enc.toArray 2).run Try.prog w = .ok (x.l.val) w := run_part_one na162 us162 (lk164_2 x)
@[go_sem ↓ high] theorem fd164_2 (w : World) (x : GLedgerLedger) : (gField 164 (GLedgerLedger.val x) 2).run Try.prog w = .ok (x.l.val) w := by
  rw [GLedgerLedger.val_eq]
  exact run_gField w uu164 (by rw [fl164]; rfl) (pt164_2 w x)
theorem lk164_3 (x : GLedgerLedger) : x.enc[3]? = some (.map x.names) := by
  simp [GLedgerLedger.enc, List.getElem?_append]
theorem pt164_3 (w : World) (x : GLedgerLedger) : (part 161 x.enc.toArray 3).run Try.prog w = .ok (.map x.names) w := run_part_one na161 us161 (lk164_3 x)
@[go_sem ↓ high] theorem fd164_3 (w : World) (x : GLedgerLedger) : (gField 164 (GLedgerLedger.val x) 3).run Try.prog w = .ok (.map x.names) w := by
  rw [GLedgerLedger.val_eq]
  exact run_gField w uu164 (by rw [fl164]; rfl) (pt164_3 w x)
theorem lk164_4 (x : GLedgerLedger) : x.enc[4]? = some (.int .i64 x.done) := by
  simp [GLedgerLedger.enc, List.getElem?_append]
theorem pt164_4 (w : World) (x : GLedgerLedger) : (part 3 x.enc.toArray 4).run Try.prog w = .ok (.int .i64 x.done) w := run_part_one na3 us3 (lk164_4 x)
@[go_sem ↓ high] theorem fd164_4 (w : World) (x : GLedgerLedger) : (gField 164 (GLedgerLedger.val x) 4).run Try.prog w = .ok (.int .i64 x.done) w := by
  rw [GLedgerLedger.val_eq]
  exact run_gField w uu164 (by rw [fl164]; rfl) (pt164_4 w x)
@[go_sem ↓ high] theorem xf_GLedgerLedger (ρ : Operand → Value) (dst : Option Tmp) (x : Operand) (i : Nat) (ty : TypeId) (pos : String) (after : Array Edge) (guard : Option (Nat × Bool)) : execOp ρ { dst, op := .field 164 x i, type := ty, pos, after, guard } = (do pure (.value (← gField 164 (ρ x) i))) := ex_field ..
theorem zr164 : zeroT Try.prog 164 = some (.agg (GLedgerLedger.enc default).toArray) := by kernel_rfl
@[go_sem ↓ high] theorem al_GLedgerLedger (w : World) : (gAlloc 164).run Try.prog w = .ok (.pointer (some ⟨w.heap.size, 0, none⟩)) (w.alloc (.cells (GLedgerLedger.enc default).toArray 164)) := run_zero_alloc zr164 w
@[go_sem] theorem pc_GLedgerLedger (w : World) (n : Nat) (x z : GLedgerLedger) (hn : n = w.heap.size) : World.putCells (w.alloc (.cells (GLedgerLedger.enc z).toArray 164)) ⟨n, 0, none⟩ (GLedgerLedger.enc x) = w.alloc (.cells (GLedgerLedger.enc x).toArray 164) := putCells_top x z hn
theorem GLedgerLedger.at_epoch {w : World} {a : Addr} {x : GLedgerLedger} (h : get? GLedgerLedger w a = some x) : w.cell? (a.add 0) = some (.int .i64 x.epoch) := (get?_iff.1 h) _ _ (lk164_0 x)
theorem GLedgerLedger.at_last {w : World} {a : Addr} {x : GLedgerLedger} (h : get? GLedgerLedger w a = some x) : w.cell? (a.add 1) = some (.int .u64 x.last) := (get?_iff.1 h) _ _ (lk164_1 x)
theorem GLedgerLedger.at_l {w : World} {a : Addr} {x : GLedgerLedger} (h : get? GLedgerLedger w a = some x) : w.cell? (a.add 2) = some (x.l.val) := (get?_iff.1 h) _ _ (lk164_2 x)
theorem GLedgerLedger.at_names {w : World} {a : Addr} {x : GLedgerLedger} (h : get? GLedgerLedger w a = some x) : w.cell? (a.add 3) = some (.map x.names) := (get?_iff.1 h) _ _ (lk164_3 x)
theorem GLedgerLedger.at_done {w : World} {a : Addr} {x : GLedgerLedger} (h : get? GLedgerLedger w a = some x) : w.cell? (a.add 4) = some (.int .i64 x.done) := (get?_iff.1 h) _ _ (lk164_4 x)
@[go_sem] theorem nl164_0 (x : GLedgerLedger) : x.enc[0]? = some (.int .i64 x.epoch) := by
  have h := (GLedgerLedger.at_epoch (get?_new (w := (default : World)) 164 x))
  simp only [Addr.add_lit, Nat.zero_add, Nat.reduceAdd, World.cell?_alloc_new, List.getElem?_toArray] at h
  exact h
@[go_sem] theorem nl164_1 (x : GLedgerLedger) : x.enc[1]? = some (.int .u64 x.last) := by
  have h := (GLedgerLedger.at_last (get?_new (w := (default : World)) 164 x))
  simp only [Addr.add_lit, Nat.zero_add, Nat.reduceAdd, World.cell?_alloc_new, List.getElem?_toArray] at h
  exact h
@[go_sem] theorem nl164_2 (x : GLedgerLedger) : x.enc[2]? = some (x.l.val) := by
  have h := (GLedgerLedger.at_l (get?_new (w := (default : World)) 164 x))
  simp only [Addr.add_lit, Nat.zero_add, Nat.reduceAdd, World.cell?_alloc_new, List.getElem?_toArray] at h
  exact h
@[go_sem] theorem nl164_3 (x : GLedgerLedger) : x.enc[3]? = some (.map x.names) := by
  have h := (GLedgerLedger.at_names (get?_new (w := (default : World)) 164 x))
  simp only [Addr.add_lit, Nat.zero_add, Nat.reduceAdd, World.cell?_alloc_new, List.getElem?_toArray] at h
  exact h
@[go_sem] theorem nl164_4 (x : GLedgerLedger) : x.enc[4]? = some (.int .i64 x.done) := by
  have h := (GLedgerLedger.at_done (get?_new (w := (default : World)) 164 x))
  simp only [Addr.add_lit, Nat.zero_add, Nat.reduceAdd, World.cell?_alloc_new, List.getElem?_toArray] at h
  exact h
@[go_sem] theorem nw164 (w : World) (n : Nat) (x : GLedgerLedger) (hn : n = w.heap.size) : get? GLedgerLedger (w.alloc (.cells (GLedgerLedger.enc x).toArray 164)) ⟨n, 0, none⟩ = some x := by
  subst hn; exact get?_new 164 x
theorem pl164 : ((Try.prog.fieldsOf 164).toList.mapM fun f => (Try.prog.info? f.type).map fun i => (f.offset, i.size)) = some [(0, 1), (1, 1), (2, 1), (3, 1), (4, 1)] := by kernel_rfl
theorem fs164_3 (x : GLedgerLedger) (v : Option Nat) (rest : List (Nat × Value)) : Instr.fill (fun i => ([(0, 1), (1, 1), (2, 1), (3, 1), (4, 1)] : List (Nat × Nat))[i]?) x.enc.toArray ((3, (.map v)) :: rest) = Instr.fill (fun i => ([(0, 1), (1, 1), (2, 1), (3, 1), (4, 1)] : List (Nat × Nat))[i]?) ({ x with names := v } : GLedgerLedger).enc.toArray rest := by
  have h := fill_seg [(0, 1), (1, 1), (2, 1), (3, 1), (4, 1)] 3 3 1 rfl (([] : List Value) ++ ([(.int .i64 x.epoch)] ++ ([(.int .u64 x.last)] ++ ([(x.l.val)])))) ([(.map x.names)]) ([(.int .i64 x.done)] ++ (([] : List Value))) ([(.map v)]) (.map v) rest (rfl) (by simp) (by simp) (by simp)
  have e1 : x.enc = (([] : List Value) ++ ([(.int .i64 x.epoch)] ++ ([(.int .u64 x.last)] ++ ([(x.l.val)])))) ++ ([(.map x.names)] ++ ([(.int .i64 x.done)] ++ (([] : List Value)))) := by simp [GLedgerLedger.enc]
  have e2 : ({ x with names := v } : GLedgerLedger).enc = (([] : List Value) ++ ([(.int .i64 x.epoch)] ++ ([(.int .u64 x.last)] ++ ([(x.l.val)])))) ++ ([(.map v)] ++ ([(.int .i64 x.done)] ++ (([] : List Value)))) := by simp [GLedgerLedger.enc]
  rw [e1, e2]; exact h
@[go_sem ↓ high] theorem xd_GLedgerLedger (ρ : Operand → Value) (dst : Option Tmp) (ps : Array (Nat × Operand)) (ty : TypeId) (pos : String) (after : Array Edge) (guard : Option (Nat × Bool)) : execOp ρ { dst, op := .build 164 ps, type := ty, pos, after, guard } = (do pure (.value (← gBuild 164 (ps.map fun (i, x) => (i, ρ x))))) := ex_build ..
@[go_sem ↓ high] theorem bd164_0 (w : World) (v3 : Option Nat) : (gBuild 164 #[(3, (.map v3))]).run Try.prog w = .ok (GLedgerLedger.val ⟨0, 0, default, v3, 0⟩) w := by
  rw [GLedgerLedger.val_eq]
  refine run_gBuild_of uu164 zr164 pl164 ?_ w
  show Instr.fill _ (GLedgerLedger.enc default).toArray [(3, (.map v3))] = _
  rw [fs164_3]; rfl

/-! ### gavel/ledger.place -/
structure GLedgerPlace where
  e : GEntry
  status : Int
  payload : Hdr
deriving DecidableEq
instance : Inhabited GLedgerPlace := ⟨⟨default, 0, default⟩⟩
def GLedgerPlace.enc (x : GLedgerPlace) : List Value := x.e.enc ++ ([(.int .i64 x.status)] ++ ([(x.payload.val)]))
theorem GLedgerPlace.enc_len (x : GLedgerPlace) : x.enc.length = 37 := by simp [GLedgerPlace.enc, GEntry.enc_len]
theorem GLedgerPlace.enc_one (x : GLedgerPlace) : ∀ u ∈ x.enc, u.oneCell' = true := by
  intro u hu
  simp only [GLedgerPlace.enc, List.mem_append, List.mem_singleton] at hu
  rcases hu with hu | hu | hu
  · exact Enc.one (α := GEntry) _ _ hu
  · subst hu; rfl
  · subst hu; rfl
theorem GLedgerPlace.enc_inj (x y : GLedgerPlace) (h : x.enc = y.enc) : x = y := by
  obtain ⟨a0, a1, a2⟩ := x
  obtain ⟨b0, b1, b2⟩ := y
  simp only [GLedgerPlace.enc] at h
  obtain ⟨p0, q0⟩ := List.append_inj h (by simp [GEntry.enc_len])
  have e0 := Enc.inj (α := GEntry) _ _ p0
  obtain ⟨p1, q1⟩ := List.append_inj q0 (rfl)
  have e1 : a1 = b1 := by have := List.head_eq_of_cons_eq p1; injection this
  have e2 : a2 = b2 := Enc.inj (α := Hdr) _ _ q1
  rw [e0, e1, e2]
instance : Enc GLedgerPlace where
  n := 37
  enc := GLedgerPlace.enc
  pos := by omega
  len := GLedgerPlace.enc_len
  one := GLedgerPlace.enc_one
  inj := GLedgerPlace.enc_inj
@[go_sem] theorem GLedgerPlace.n_eq : Enc.n GLedgerPlace = 37 := rfl
@[irreducible] def GLedgerPlace.val (x : GLedgerPlace) : Value := .agg x.enc.toArray
theorem GLedgerPlace.val_eq (x : GLedgerPlace) : GLedgerPlace.val x = .agg (Enc.enc x).toArray := by unfold GLedgerPlace.val; rfl
theorem GLedgerPlace.ext_all (x y : GLedgerPlace) : x = y ↔ x.e = y.e ∧ x.status = y.status ∧ x.payload = y.payload := by
  constructor
  · intro h; cases h; simp
  · intro h; cases x; cases y; simp_all
theorem uu169 : Try.prog.underlying 169 = some (.struct (Try.prog.fieldsOf 169)) := by kernel_rfl
theorem st169 : Try.prog.stoodInHeld 169 = false := by kernel_rfl
theorem fl169 : fieldTO Try.prog 169 = [(30, 0), (3, 35), (79, 36)] := by kernel_rfl
theorem nb169 : noBlank Try.prog 169 = true := by kernel_rfl
@[go_sem ↓ high] theorem xl_GLedgerPlace (ρ : Operand → Value) (dst : Option Tmp) (x : Operand) (ty : TypeId) (pos : String) (after : Array Edge) (guard : Option (Nat × Bool)) : execOp ρ { dst, op := .load 169 x, type := ty, pos, after, guard } = (do pure (.value (← gLoad 169 (ρ x)))) := ex_load ..
@[go_sem ↓ high] theorem xs_GLedgerPlace (ρ : Operand → Value) (dst : Option Tmp) (x y : Operand) (ty : TypeId) (pos : String) (after : Array Edge) (guard : Option (Nat × Bool)) : execOp ρ { dst, op := .store 169 x y, type := ty, pos, after, guard } = (do gStore 169 (ρ x) (ρ y); pure .skip) := ex_store ..
@[go_sem ↓ high] theorem xb_GLedgerPlace (ρ : Operand → Value) (dst : Option Tmp) (x : Operand) (ty : TypeId) (pos : String) (after : Array Edge) (guard : Option (Nat × Bool)) : execOp ρ { dst, op := .box 169 x, type := ty, pos, after, guard } = (do pure (.value (← gBox 169 (ρ x)))) := ex_box ..
@[go_sem ↓ high] theorem xa_GLedgerPlace (ρ : Operand → Value) (dst : Option Tmp) (ty : TypeId) (pos : String) (after : Array Edge) (guard : Option (Nat × Bool)) : execOp ρ { dst, op := .alloc 169, type := ty, pos, after, guard } = (do pure (.value (← gAlloc 169))) := ex_alloc ..
theorem ag169 : aggT Try.prog 169 = true := by kernel_rfl
theorem sz169 : sizeT Try.prog 169 = 37 := by kernel_rfl
section
variable (w : World)
@[go_sem ↓ high] theorem ld_GLedgerPlace (a : Addr) : (gLoad 169 (.pointer (some a))).run Try.prog w = ofOpt ((get? GLedgerPlace w a).map GLedgerPlace.val) w (noLoad Try.prog 169 a w) := by
  unfold gLoad; exact run_loadAt_opt ag169 sz169 GLedgerPlace.val GLedgerPlace.val_eq
@[go_sem ↓ high] theorem st_GLedgerPlace (a : Addr) (x : GLedgerPlace) : (gStore 169 (.pointer (some a)) (GLedgerPlace.val x)).run Try.prog w = okU' ((get? GLedgerPlace w a).isSome && blkFree w a.block) (World.putCells w a (GLedgerPlace.enc x)) (noStore Try.prog 169 (.pointer (some a)) (GLedgerPlace.val x) w) := run_gStore_any sz169 GLedgerPlace.val GLedgerPlace.val_eq w a x
@[go_sem ↓ high] theorem bx_GLedgerPlace (x : GLedgerPlace) : (gBox 169 (GLedgerPlace.val x)).run Try.prog w = .ok (.pointer (some ⟨w.heap.size, 0, none⟩)) (w.alloc (.cells (GLedgerPlace.enc x).toArray 169)) := by
  rw [GLedgerPlace.val_eq]; exact run_gBox _ w
end
theorem ds169_0 (x : GLedgerPlace) : (x.enc.drop 0).take 35 = x.e.enc := by
  unfold GLedgerPlace.enc
  simp only [List.drop_zero]
  rw [List.take_append_of_le_length (by simp [GEntry.enc_len])]; exact List.take_of_length_le (by simp [GEntry.enc_len])
theorem pt169_0 (w : World) (x : GLedgerPlace) : (part 30 x.enc.toArray 0).run Try.prog w = .ok (x.e.val) w := by
  have h := run_part_agg (P := Try.prog) (w := w) (cs := x.enc) (ds := x.e.enc) (off := 0) ag30 (by rw [GEntry.enc_len]; exact sz30) (by simp [GEntry.enc_len]) (by rw [GEntry.enc_len]; exact ds169_0 x)
  rw [h, GEntry.val_eq]; rfl
@[go_sem ↓ high] theorem fd169_0 (w : World) (x : GLedgerPlace) : (gField 169 (GLedgerPlace.val x) 0).run Try.prog w = .ok (x.e.val) w := by
  rw [GLedgerPlace.val_eq]
  exact run_gField w uu169 (by rw [fl169]; rfl) (pt169_0 w x)
theorem lk169_1 (x : GLedgerPlace) : x.enc[35]? = some (.int .i64 x.status) := by
  simp [GLedgerPlace.enc, List.getElem?_append, GEntry.enc_len]
theorem pt169_1 (w : World) (x : GLedgerPlace) : (part 3 x.enc.toArray 35).run Try.prog w = .ok (.int .i64 x.status) w := run_part_one na3 us3 (lk169_1 x)
@[go_sem ↓ high] theorem fd169_1 (w : World) (x : GLedgerPlace) : (gField 169 (GLedgerPlace.val x) 1).run Try.prog w = .ok (.int .i64 x.status) w := by
  rw [GLedgerPlace.val_eq]
  exact run_gField w uu169 (by rw [fl169]; rfl) (pt169_1 w x)
theorem lk169_2 (x : GLedgerPlace) : x.enc[36]? = some (x.payload.val) := by
  simp [GLedgerPlace.enc, List.getElem?_append, GEntry.enc_len]
theorem pt169_2 (w : World) (x : GLedgerPlace) : (part 79 x.enc.toArray 36).run Try.prog w = .ok (x.payload.val) w := run_part_one na79 us79 (lk169_2 x)
@[go_sem ↓ high] theorem fd169_2 (w : World) (x : GLedgerPlace) : (gField 169 (GLedgerPlace.val x) 2).run Try.prog w = .ok (x.payload.val) w := by
  rw [GLedgerPlace.val_eq]
  exact run_gField w uu169 (by rw [fl169]; rfl) (pt169_2 w x)
@[go_sem ↓ high] theorem xf_GLedgerPlace (ρ : Operand → Value) (dst : Option Tmp) (x : Operand) (i : Nat) (ty : TypeId) (pos : String) (after : Array Edge) (guard : Option (Nat × Bool)) : execOp ρ { dst, op := .field 169 x i, type := ty, pos, after, guard } = (do pure (.value (← gField 169 (ρ x) i))) := ex_field ..
theorem zr169 : zeroT Try.prog 169 = some (.agg (GLedgerPlace.enc default).toArray) := by kernel_rfl
@[go_sem ↓ high] theorem al_GLedgerPlace (w : World) : (gAlloc 169).run Try.prog w = .ok (.pointer (some ⟨w.heap.size, 0, none⟩)) (w.alloc (.cells (GLedgerPlace.enc default).toArray 169)) := run_zero_alloc zr169 w
@[go_sem] theorem pc_GLedgerPlace (w : World) (n : Nat) (x z : GLedgerPlace) (hn : n = w.heap.size) : World.putCells (w.alloc (.cells (GLedgerPlace.enc z).toArray 169)) ⟨n, 0, none⟩ (GLedgerPlace.enc x) = w.alloc (.cells (GLedgerPlace.enc x).toArray 169) := putCells_top x z hn
theorem GLedgerPlace.at_e {w : World} {a : Addr} {x : GLedgerPlace} (h : get? GLedgerPlace w a = some x) : get? GEntry w (a.add 0) = some x.e := by
  rw [get?_iff] at h ⊢
  refine h.sub 0 fun j v hv => ?_
  have hd := ds169_0 x
  have hj : j < 35 := by have := (List.getElem?_eq_some_iff.1 hv).1; rwa [Enc.len] at this
  show x.enc[0 + j]? = some v
  rw [← List.getElem?_drop, ← List.getElem?_take_of_lt hj, hd]; exact hv
theorem GLedgerPlace.at_status {w : World} {a : Addr} {x : GLedgerPlace} (h : get? GLedgerPlace w a = some x) : w.cell? (a.add 35) = some (.int .i64 x.status) := (get?_iff.1 h) _ _ (lk169_1 x)
theorem GLedgerPlace.at_payload {w : World} {a : Addr} {x : GLedgerPlace} (h : get? GLedgerPlace w a = some x) : w.cell? (a.add 36) = some (x.payload.val) := (get?_iff.1 h) _ _ (lk169_2 x)
@[go_sem] theorem nw169_0_GEntry (w : World) (n : Nat) (x : GLedgerPlace) (hn : n = w.heap.size) : get? GEntry (w.alloc (.cells (GLedgerPlace.enc x).toArray 169)) ⟨n, 0, none⟩ = some x.e := by
  subst hn
  have h := (GLedgerPlace.at_e (get?_new (w := w) 169 x))
  simp only [Addr.add_lit, Nat.zero_add, Nat.reduceAdd] at h
  exact h
@[go_sem] theorem nw169_0_GName (w : World) (n : Nat) (x : GLedgerPlace) (hn : n = w.heap.size) : get? GName (w.alloc (.cells (GLedgerPlace.enc x).toArray 169)) ⟨n, 0, none⟩ = some x.e.name := by
  subst hn
  have h := (GEntry.at_name (GLedgerPlace.at_e (get?_new (w := w) 169 x)))
  simp only [Addr.add_lit, Nat.zero_add, Nat.reduceAdd] at h
  exact h
@[go_sem] theorem nl169_0 (x : GLedgerPlace) : x.enc[0]? = some (.int .i64 x.e.name.client) := by
  have h := (GName.at_client (GEntry.at_name (GLedgerPlace.at_e (get?_new (w := (default : World)) 169 x))))
  simp only [Addr.add_lit, Nat.zero_add, Nat.reduceAdd, World.cell?_alloc_new, List.getElem?_toArray] at h
  exact h
@[go_sem] theorem nl169_1 (x : GLedgerPlace) : x.enc[1]? = some (.int .i64 x.e.name.seq) := by
  have h := (GName.at_seq (GEntry.at_name (GLedgerPlace.at_e (get?_new (w := (default : World)) 169 x))))
  simp only [Addr.add_lit, Nat.zero_add, Nat.reduceAdd, World.cell?_alloc_new, List.getElem?_toArray] at h
  exact h
@[go_sem] theorem nw169_2_GHash (w : World) (n : Nat) (x : GLedgerPlace) (hn : n = w.heap.size) : get? GHash (w.alloc (.cells (GLedgerPlace.enc x).toArray 169)) ⟨n, 2, none⟩ = some x.e.hash := by
  subst hn
  have h := (GEntry.at_hash (GLedgerPlace.at_e (get?_new (w := w) 169 x)))
  simp only [Addr.add_lit, Nat.zero_add, Nat.reduceAdd] at h
  exact h
@[go_sem] theorem nl169_34 (x : GLedgerPlace) : x.enc[34]? = some (.int .u64 x.e.time) := by
  have h := (GEntry.at_time (GLedgerPlace.at_e (get?_new (w := (default : World)) 169 x)))
  simp only [Addr.add_lit, Nat.zero_add, Nat.reduceAdd, World.cell?_alloc_new, List.getElem?_toArray] at h
  exact h
@[go_sem] theorem nl169_35 (x : GLedgerPlace) : x.enc[35]? = some (.int .i64 x.status) := by
  have h := (GLedgerPlace.at_status (get?_new (w := (default : World)) 169 x))
  simp only [Addr.add_lit, Nat.zero_add, Nat.reduceAdd, World.cell?_alloc_new, List.getElem?_toArray] at h
  exact h
@[go_sem] theorem nl169_36 (x : GLedgerPlace) : x.enc[36]? = some (x.payload.val) := by
  have h := (GLedgerPlace.at_payload (get?_new (w := (default : World)) 169 x))
  simp only [Addr.add_lit, Nat.zero_add, Nat.reduceAdd, World.cell?_alloc_new, List.getElem?_toArray] at h
  exact h
@[go_sem] theorem nw169 (w : World) (n : Nat) (x : GLedgerPlace) (hn : n = w.heap.size) : get? GLedgerPlace (w.alloc (.cells (GLedgerPlace.enc x).toArray 169)) ⟨n, 0, none⟩ = some x := by
  subst hn; exact get?_new 169 x
theorem pl169 : ((Try.prog.fieldsOf 169).toList.mapM fun f => (Try.prog.info? f.type).map fun i => (f.offset, i.size)) = some [(0, 35), (35, 1), (36, 1)] := by kernel_rfl
theorem fs169_0 (x : GLedgerPlace) (v : GEntry) (rest : List (Nat × Value)) : Instr.fill (fun i => ([(0, 35), (35, 1), (36, 1)] : List (Nat × Nat))[i]?) x.enc.toArray ((0, (v.val)) :: rest) = Instr.fill (fun i => ([(0, 35), (35, 1), (36, 1)] : List (Nat × Nat))[i]?) ({ x with e := v } : GLedgerPlace).enc.toArray rest := by
  have h := fill_seg [(0, 35), (35, 1), (36, 1)] 0 0 35 rfl (([] : List Value)) (x.e.enc) ([(.int .i64 x.status)] ++ ([(x.payload.val)] ++ (([] : List Value)))) (v.enc) (v.val) rest (by rw [GEntry.val_eq]; rfl) (by simp [GEntry.enc_len]) (by simp [GEntry.enc_len]) (by simp [GEntry.enc_len])
  have e1 : x.enc = (([] : List Value)) ++ (x.e.enc ++ ([(.int .i64 x.status)] ++ ([(x.payload.val)] ++ (([] : List Value))))) := by simp [GLedgerPlace.enc]
  have e2 : ({ x with e := v } : GLedgerPlace).enc = (([] : List Value)) ++ (v.enc ++ ([(.int .i64 x.status)] ++ ([(x.payload.val)] ++ (([] : List Value))))) := by simp [GLedgerPlace.enc]
  rw [e1, e2]; exact h
theorem fs169_1 (x : GLedgerPlace) (v : Int) (rest : List (Nat × Value)) : Instr.fill (fun i => ([(0, 35), (35, 1), (36, 1)] : List (Nat × Nat))[i]?) x.enc.toArray ((1, (.int .i64 v)) :: rest) = Instr.fill (fun i => ([(0, 35), (35, 1), (36, 1)] : List (Nat × Nat))[i]?) ({ x with status := v } : GLedgerPlace).enc.toArray rest := by
  have h := fill_seg [(0, 35), (35, 1), (36, 1)] 1 35 1 rfl (([] : List Value) ++ (x.e.enc)) ([(.int .i64 x.status)]) ([(x.payload.val)] ++ (([] : List Value))) ([(.int .i64 v)]) (.int .i64 v) rest (rfl) (by simp [GEntry.enc_len]) (by simp [GEntry.enc_len]) (by simp [GEntry.enc_len])
  have e1 : x.enc = (([] : List Value) ++ (x.e.enc)) ++ ([(.int .i64 x.status)] ++ ([(x.payload.val)] ++ (([] : List Value)))) := by simp [GLedgerPlace.enc]
  have e2 : ({ x with status := v } : GLedgerPlace).enc = (([] : List Value) ++ (x.e.enc)) ++ ([(.int .i64 v)] ++ ([(x.payload.val)] ++ (([] : List Value)))) := by simp [GLedgerPlace.enc]
  rw [e1, e2]; exact h
@[go_sem ↓ high] theorem xd_GLedgerPlace (ρ : Operand → Value) (dst : Option Tmp) (ps : Array (Nat × Operand)) (ty : TypeId) (pos : String) (after : Array Edge) (guard : Option (Nat × Bool)) : execOp ρ { dst, op := .build 169 ps, type := ty, pos, after, guard } = (do pure (.value (← gBuild 169 (ps.map fun (i, x) => (i, ρ x))))) := ex_build ..
@[go_sem ↓ high] theorem bd169_0 (w : World) (v0 : GEntry) (v1 : Int) : (gBuild 169 #[(0, (v0.val)), (1, (.int .i64 v1))]).run Try.prog w = .ok (GLedgerPlace.val ⟨v0, v1, default⟩) w := by
  rw [GLedgerPlace.val_eq]
  refine run_gBuild_of uu169 zr169 pl169 ?_ w
  show Instr.fill _ (GLedgerPlace.enc default).toArray [(0, (v0.val)), (1, (.int .i64 v1))] = _
  rw [fs169_0, fs169_1]; rfl

/-! ### gavel/api.Batch -/
structure GBatch where
  epoch : Int
  time : Int
  promises : Hdr
  openings : Hdr
  tombs : Hdr
deriving DecidableEq
instance : Inhabited GBatch := ⟨⟨0, 0, default, default, default⟩⟩
def GBatch.enc (x : GBatch) : List Value := [(.int .i64 x.epoch)] ++ ([(.int .u64 x.time)] ++ ([(x.promises.val)] ++ ([(x.openings.val)] ++ ([(x.tombs.val)]))))
theorem GBatch.enc_len (x : GBatch) : x.enc.length = 5 := by simp [GBatch.enc]
theorem GBatch.enc_one (x : GBatch) : ∀ u ∈ x.enc, u.oneCell' = true := by
  intro u hu
  simp only [GBatch.enc, List.mem_append, List.mem_singleton] at hu
  rcases hu with hu | hu | hu | hu | hu
  · subst hu; rfl
  · subst hu; rfl
  · subst hu; rfl
  · subst hu; rfl
  · subst hu; rfl
theorem GBatch.enc_inj (x y : GBatch) (h : x.enc = y.enc) : x = y := by
  obtain ⟨a0, a1, a2, a3, a4⟩ := x
  obtain ⟨b0, b1, b2, b3, b4⟩ := y
  simp only [GBatch.enc] at h
  obtain ⟨p0, q0⟩ := List.append_inj h (rfl)
  have e0 : a0 = b0 := by have := List.head_eq_of_cons_eq p0; injection this
  obtain ⟨p1, q1⟩ := List.append_inj q0 (rfl)
  have e1 : a1 = b1 := by have := List.head_eq_of_cons_eq p1; injection this
  obtain ⟨p2, q2⟩ := List.append_inj q1 (rfl)
  have e2 : a2 = b2 := Enc.inj (α := Hdr) _ _ p2
  obtain ⟨p3, q3⟩ := List.append_inj q2 (rfl)
  have e3 : a3 = b3 := Enc.inj (α := Hdr) _ _ p3
  have e4 : a4 = b4 := Enc.inj (α := Hdr) _ _ q3
  rw [e0, e1, e2, e3, e4]
instance : Enc GBatch where
  n := 5
  enc := GBatch.enc
  pos := by omega
  len := GBatch.enc_len
  one := GBatch.enc_one
  inj := GBatch.enc_inj
@[go_sem] theorem GBatch.n_eq : Enc.n GBatch = 5 := rfl
@[irreducible] def GBatch.val (x : GBatch) : Value := .agg x.enc.toArray
theorem GBatch.val_eq (x : GBatch) : GBatch.val x = .agg (Enc.enc x).toArray := by unfold GBatch.val; rfl
theorem GBatch.ext_all (x y : GBatch) : x = y ↔ x.epoch = y.epoch ∧ x.time = y.time ∧ x.promises = y.promises ∧ x.openings = y.openings ∧ x.tombs = y.tombs := by
  constructor
  · intro h; cases h; simp
  · intro h; cases x; cases y; simp_all
theorem uu74 : Try.prog.underlying 74 = some (.struct (Try.prog.fieldsOf 74)) := by kernel_rfl
theorem st74 : Try.prog.stoodInHeld 74 = false := by kernel_rfl
theorem fl74 : fieldTO Try.prog 74 = [(3, 0), (28, 1), (70, 2), (71, 3), (72, 4)] := by kernel_rfl
theorem nb74 : noBlank Try.prog 74 = true := by kernel_rfl
@[go_sem ↓ high] theorem xl_GBatch (ρ : Operand → Value) (dst : Option Tmp) (x : Operand) (ty : TypeId) (pos : String) (after : Array Edge) (guard : Option (Nat × Bool)) : execOp ρ { dst, op := .load 74 x, type := ty, pos, after, guard } = (do pure (.value (← gLoad 74 (ρ x)))) := ex_load ..
@[go_sem ↓ high] theorem xs_GBatch (ρ : Operand → Value) (dst : Option Tmp) (x y : Operand) (ty : TypeId) (pos : String) (after : Array Edge) (guard : Option (Nat × Bool)) : execOp ρ { dst, op := .store 74 x y, type := ty, pos, after, guard } = (do gStore 74 (ρ x) (ρ y); pure .skip) := ex_store ..
@[go_sem ↓ high] theorem xb_GBatch (ρ : Operand → Value) (dst : Option Tmp) (x : Operand) (ty : TypeId) (pos : String) (after : Array Edge) (guard : Option (Nat × Bool)) : execOp ρ { dst, op := .box 74 x, type := ty, pos, after, guard } = (do pure (.value (← gBox 74 (ρ x)))) := ex_box ..
@[go_sem ↓ high] theorem xa_GBatch (ρ : Operand → Value) (dst : Option Tmp) (ty : TypeId) (pos : String) (after : Array Edge) (guard : Option (Nat × Bool)) : execOp ρ { dst, op := .alloc 74, type := ty, pos, after, guard } = (do pure (.value (← gAlloc 74))) := ex_alloc ..
theorem ag74 : aggT Try.prog 74 = true := by kernel_rfl
theorem sz74 : sizeT Try.prog 74 = 5 := by kernel_rfl
section
variable (w : World)
@[go_sem ↓ high] theorem ld_GBatch (a : Addr) : (gLoad 74 (.pointer (some a))).run Try.prog w = ofOpt ((get? GBatch w a).map GBatch.val) w (noLoad Try.prog 74 a w) := by
  unfold gLoad; exact run_loadAt_opt ag74 sz74 GBatch.val GBatch.val_eq
@[go_sem ↓ high] theorem st_GBatch (a : Addr) (x : GBatch) : (gStore 74 (.pointer (some a)) (GBatch.val x)).run Try.prog w = okU' ((get? GBatch w a).isSome && blkFree w a.block) (World.putCells w a (GBatch.enc x)) (noStore Try.prog 74 (.pointer (some a)) (GBatch.val x) w) := run_gStore_any sz74 GBatch.val GBatch.val_eq w a x
@[go_sem ↓ high] theorem bx_GBatch (x : GBatch) : (gBox 74 (GBatch.val x)).run Try.prog w = .ok (.pointer (some ⟨w.heap.size, 0, none⟩)) (w.alloc (.cells (GBatch.enc x).toArray 74)) := by
  rw [GBatch.val_eq]; exact run_gBox _ w
end
theorem lk74_0 (x : GBatch) : x.enc[0]? = some (.int .i64 x.epoch) := by
  simp [GBatch.enc, List.getElem?_append]
theorem pt74_0 (w : World) (x : GBatch) : (part 3 x.enc.toArray 0).run Try.prog w = .ok (.int .i64 x.epoch) w := run_part_one na3 us3 (lk74_0 x)
@[go_sem ↓ high] theorem fd74_0 (w : World) (x : GBatch) : (gField 74 (GBatch.val x) 0).run Try.prog w = .ok (.int .i64 x.epoch) w := by
  rw [GBatch.val_eq]
  exact run_gField w uu74 (by rw [fl74]; rfl) (pt74_0 w x)
theorem lk74_1 (x : GBatch) : x.enc[1]? = some (.int .u64 x.time) := by
  simp [GBatch.enc, List.getElem?_append]
theorem pt74_1 (w : World) (x : GBatch) : (part 28 x.enc.toArray 1).run Try.prog w = .ok (.int .u64 x.time) w := run_part_one na28 us28 (lk74_1 x)
@[go_sem ↓ high] theorem fd74_1 (w : World) (x : GBatch) : (gField 74 (GBatch.val x) 1).run Try.prog w = .ok (.int .u64 x.time) w := by
  rw [GBatch.val_eq]
  exact run_gField w uu74 (by rw [fl74]; rfl) (pt74_1 w x)
theorem lk74_2 (x : GBatch) : x.enc[2]? = some (x.promises.val) := by
  simp [GBatch.enc, List.getElem?_append]
theorem pt74_2 (w : World) (x : GBatch) : (part 70 x.enc.toArray 2).run Try.prog w = .ok (x.promises.val) w := run_part_one na70 us70 (lk74_2 x)
@[go_sem ↓ high] theorem fd74_2 (w : World) (x : GBatch) : (gField 74 (GBatch.val x) 2).run Try.prog w = .ok (x.promises.val) w := by
  rw [GBatch.val_eq]
  exact run_gField w uu74 (by rw [fl74]; rfl) (pt74_2 w x)
theorem lk74_3 (x : GBatch) : x.enc[3]? = some (x.openings.val) := by
  simp [GBatch.enc, List.getElem?_append]
theorem pt74_3 (w : World) (x : GBatch) : (part 71 x.enc.toArray 3).run Try.prog w = .ok (x.openings.val) w := run_part_one na71 us71 (lk74_3 x)
@[go_sem ↓ high] theorem fd74_3 (w : World) (x : GBatch) : (gField 74 (GBatch.val x) 3).run Try.prog w = .ok (x.openings.val) w := by
  rw [GBatch.val_eq]
  exact run_gField w uu74 (by rw [fl74]; rfl) (pt74_3 w x)
theorem lk74_4 (x : GBatch) : x.enc[4]? = some (x.tombs.val) := by
  simp [GBatch.enc, List.getElem?_append]
theorem pt74_4 (w : World) (x : GBatch) : (part 72 x.enc.toArray 4).run Try.prog w = .ok (x.tombs.val) w := run_part_one na72 us72 (lk74_4 x)
@[go_sem ↓ high] theorem fd74_4 (w : World) (x : GBatch) : (gField 74 (GBatch.val x) 4).run Try.prog w = .ok (x.tombs.val) w := by
  rw [GBatch.val_eq]
  exact run_gField w uu74 (by rw [fl74]; rfl) (pt74_4 w x)
@[go_sem ↓ high] theorem xf_GBatch (ρ : Operand → Value) (dst : Option Tmp) (x : Operand) (i : Nat) (ty : TypeId) (pos : String) (after : Array Edge) (guard : Option (Nat × Bool)) : execOp ρ { dst, op := .field 74 x i, type := ty, pos, after, guard } = (do pure (.value (← gField 74 (ρ x) i))) := ex_field ..
theorem zr74 : zeroT Try.prog 74 = some (.agg (GBatch.enc default).toArray) := by kernel_rfl
@[go_sem ↓ high] theorem al_GBatch (w : World) : (gAlloc 74).run Try.prog w = .ok (.pointer (some ⟨w.heap.size, 0, none⟩)) (w.alloc (.cells (GBatch.enc default).toArray 74)) := run_zero_alloc zr74 w
@[go_sem] theorem pc_GBatch (w : World) (n : Nat) (x z : GBatch) (hn : n = w.heap.size) : World.putCells (w.alloc (.cells (GBatch.enc z).toArray 74)) ⟨n, 0, none⟩ (GBatch.enc x) = w.alloc (.cells (GBatch.enc x).toArray 74) := putCells_top x z hn
theorem GBatch.at_epoch {w : World} {a : Addr} {x : GBatch} (h : get? GBatch w a = some x) : w.cell? (a.add 0) = some (.int .i64 x.epoch) := (get?_iff.1 h) _ _ (lk74_0 x)
theorem GBatch.at_time {w : World} {a : Addr} {x : GBatch} (h : get? GBatch w a = some x) : w.cell? (a.add 1) = some (.int .u64 x.time) := (get?_iff.1 h) _ _ (lk74_1 x)
theorem GBatch.at_promises {w : World} {a : Addr} {x : GBatch} (h : get? GBatch w a = some x) : w.cell? (a.add 2) = some (x.promises.val) := (get?_iff.1 h) _ _ (lk74_2 x)
theorem GBatch.at_openings {w : World} {a : Addr} {x : GBatch} (h : get? GBatch w a = some x) : w.cell? (a.add 3) = some (x.openings.val) := (get?_iff.1 h) _ _ (lk74_3 x)
theorem GBatch.at_tombs {w : World} {a : Addr} {x : GBatch} (h : get? GBatch w a = some x) : w.cell? (a.add 4) = some (x.tombs.val) := (get?_iff.1 h) _ _ (lk74_4 x)
@[go_sem] theorem nl74_0 (x : GBatch) : x.enc[0]? = some (.int .i64 x.epoch) := by
  have h := (GBatch.at_epoch (get?_new (w := (default : World)) 74 x))
  simp only [Addr.add_lit, Nat.zero_add, Nat.reduceAdd, World.cell?_alloc_new, List.getElem?_toArray] at h
  exact h
@[go_sem] theorem nl74_1 (x : GBatch) : x.enc[1]? = some (.int .u64 x.time) := by
  have h := (GBatch.at_time (get?_new (w := (default : World)) 74 x))
  simp only [Addr.add_lit, Nat.zero_add, Nat.reduceAdd, World.cell?_alloc_new, List.getElem?_toArray] at h
  exact h
@[go_sem] theorem nl74_2 (x : GBatch) : x.enc[2]? = some (x.promises.val) := by
  have h := (GBatch.at_promises (get?_new (w := (default : World)) 74 x))
  simp only [Addr.add_lit, Nat.zero_add, Nat.reduceAdd, World.cell?_alloc_new, List.getElem?_toArray] at h
  exact h
@[go_sem] theorem nl74_3 (x : GBatch) : x.enc[3]? = some (x.openings.val) := by
  have h := (GBatch.at_openings (get?_new (w := (default : World)) 74 x))
  simp only [Addr.add_lit, Nat.zero_add, Nat.reduceAdd, World.cell?_alloc_new, List.getElem?_toArray] at h
  exact h
@[go_sem] theorem nl74_4 (x : GBatch) : x.enc[4]? = some (x.tombs.val) := by
  have h := (GBatch.at_tombs (get?_new (w := (default : World)) 74 x))
  simp only [Addr.add_lit, Nat.zero_add, Nat.reduceAdd, World.cell?_alloc_new, List.getElem?_toArray] at h
  exact h
@[go_sem] theorem nw74 (w : World) (n : Nat) (x : GBatch) (hn : n = w.heap.size) : get? GBatch (w.alloc (.cells (GBatch.enc x).toArray 74)) ⟨n, 0, none⟩ = some x := by
  subst hn; exact get?_new 74 x
theorem pl74 : ((Try.prog.fieldsOf 74).toList.mapM fun f => (Try.prog.info? f.type).map fun i => (f.offset, i.size)) = some [(0, 1), (1, 1), (2, 1), (3, 1), (4, 1)] := by kernel_rfl
theorem fs74_0 (x : GBatch) (v : Int) (rest : List (Nat × Value)) : Instr.fill (fun i => ([(0, 1), (1, 1), (2, 1), (3, 1), (4, 1)] : List (Nat × Nat))[i]?) x.enc.toArray ((0, (.int .i64 v)) :: rest) = Instr.fill (fun i => ([(0, 1), (1, 1), (2, 1), (3, 1), (4, 1)] : List (Nat × Nat))[i]?) ({ x with epoch := v } : GBatch).enc.toArray rest := by
  have h := fill_seg [(0, 1), (1, 1), (2, 1), (3, 1), (4, 1)] 0 0 1 rfl (([] : List Value)) ([(.int .i64 x.epoch)]) ([(.int .u64 x.time)] ++ ([(x.promises.val)] ++ ([(x.openings.val)] ++ ([(x.tombs.val)] ++ (([] : List Value)))))) ([(.int .i64 v)]) (.int .i64 v) rest (rfl) (by simp) (by simp) (by simp)
  have e1 : x.enc = (([] : List Value)) ++ ([(.int .i64 x.epoch)] ++ ([(.int .u64 x.time)] ++ ([(x.promises.val)] ++ ([(x.openings.val)] ++ ([(x.tombs.val)] ++ (([] : List Value))))))) := by simp [GBatch.enc]
  have e2 : ({ x with epoch := v } : GBatch).enc = (([] : List Value)) ++ ([(.int .i64 v)] ++ ([(.int .u64 x.time)] ++ ([(x.promises.val)] ++ ([(x.openings.val)] ++ ([(x.tombs.val)] ++ (([] : List Value))))))) := by simp [GBatch.enc]
  rw [e1, e2]; exact h
theorem fs74_1 (x : GBatch) (v : Int) (rest : List (Nat × Value)) : Instr.fill (fun i => ([(0, 1), (1, 1), (2, 1), (3, 1), (4, 1)] : List (Nat × Nat))[i]?) x.enc.toArray ((1, (.int .u64 v)) :: rest) = Instr.fill (fun i => ([(0, 1), (1, 1), (2, 1), (3, 1), (4, 1)] : List (Nat × Nat))[i]?) ({ x with time := v } : GBatch).enc.toArray rest := by
  have h := fill_seg [(0, 1), (1, 1), (2, 1), (3, 1), (4, 1)] 1 1 1 rfl (([] : List Value) ++ ([(.int .i64 x.epoch)])) ([(.int .u64 x.time)]) ([(x.promises.val)] ++ ([(x.openings.val)] ++ ([(x.tombs.val)] ++ (([] : List Value))))) ([(.int .u64 v)]) (.int .u64 v) rest (rfl) (by simp) (by simp) (by simp)
  have e1 : x.enc = (([] : List Value) ++ ([(.int .i64 x.epoch)])) ++ ([(.int .u64 x.time)] ++ ([(x.promises.val)] ++ ([(x.openings.val)] ++ ([(x.tombs.val)] ++ (([] : List Value)))))) := by simp [GBatch.enc]
  have e2 : ({ x with time := v } : GBatch).enc = (([] : List Value) ++ ([(.int .i64 x.epoch)])) ++ ([(.int .u64 v)] ++ ([(x.promises.val)] ++ ([(x.openings.val)] ++ ([(x.tombs.val)] ++ (([] : List Value)))))) := by simp [GBatch.enc]
  rw [e1, e2]; exact h
theorem fs74_2 (x : GBatch) (v : Hdr) (rest : List (Nat × Value)) : Instr.fill (fun i => ([(0, 1), (1, 1), (2, 1), (3, 1), (4, 1)] : List (Nat × Nat))[i]?) x.enc.toArray ((2, (v.val)) :: rest) = Instr.fill (fun i => ([(0, 1), (1, 1), (2, 1), (3, 1), (4, 1)] : List (Nat × Nat))[i]?) ({ x with promises := v } : GBatch).enc.toArray rest := by
  have h := fill_seg [(0, 1), (1, 1), (2, 1), (3, 1), (4, 1)] 2 2 1 rfl (([] : List Value) ++ ([(.int .i64 x.epoch)] ++ ([(.int .u64 x.time)]))) ([(x.promises.val)]) ([(x.openings.val)] ++ ([(x.tombs.val)] ++ (([] : List Value)))) ([(v.val)]) (v.val) rest (rfl) (by simp) (by simp) (by simp)
  have e1 : x.enc = (([] : List Value) ++ ([(.int .i64 x.epoch)] ++ ([(.int .u64 x.time)]))) ++ ([(x.promises.val)] ++ ([(x.openings.val)] ++ ([(x.tombs.val)] ++ (([] : List Value))))) := by simp [GBatch.enc]
  have e2 : ({ x with promises := v } : GBatch).enc = (([] : List Value) ++ ([(.int .i64 x.epoch)] ++ ([(.int .u64 x.time)]))) ++ ([(v.val)] ++ ([(x.openings.val)] ++ ([(x.tombs.val)] ++ (([] : List Value))))) := by simp [GBatch.enc]
  rw [e1, e2]; exact h
theorem fs74_3 (x : GBatch) (v : Hdr) (rest : List (Nat × Value)) : Instr.fill (fun i => ([(0, 1), (1, 1), (2, 1), (3, 1), (4, 1)] : List (Nat × Nat))[i]?) x.enc.toArray ((3, (v.val)) :: rest) = Instr.fill (fun i => ([(0, 1), (1, 1), (2, 1), (3, 1), (4, 1)] : List (Nat × Nat))[i]?) ({ x with openings := v } : GBatch).enc.toArray rest := by
  have h := fill_seg [(0, 1), (1, 1), (2, 1), (3, 1), (4, 1)] 3 3 1 rfl (([] : List Value) ++ ([(.int .i64 x.epoch)] ++ ([(.int .u64 x.time)] ++ ([(x.promises.val)])))) ([(x.openings.val)]) ([(x.tombs.val)] ++ (([] : List Value))) ([(v.val)]) (v.val) rest (rfl) (by simp) (by simp) (by simp)
  have e1 : x.enc = (([] : List Value) ++ ([(.int .i64 x.epoch)] ++ ([(.int .u64 x.time)] ++ ([(x.promises.val)])))) ++ ([(x.openings.val)] ++ ([(x.tombs.val)] ++ (([] : List Value)))) := by simp [GBatch.enc]
  have e2 : ({ x with openings := v } : GBatch).enc = (([] : List Value) ++ ([(.int .i64 x.epoch)] ++ ([(.int .u64 x.time)] ++ ([(x.promises.val)])))) ++ ([(v.val)] ++ ([(x.tombs.val)] ++ (([] : List Value)))) := by simp [GBatch.enc]
  rw [e1, e2]; exact h
theorem fs74_4 (x : GBatch) (v : Hdr) (rest : List (Nat × Value)) : Instr.fill (fun i => ([(0, 1), (1, 1), (2, 1), (3, 1), (4, 1)] : List (Nat × Nat))[i]?) x.enc.toArray ((4, (v.val)) :: rest) = Instr.fill (fun i => ([(0, 1), (1, 1), (2, 1), (3, 1), (4, 1)] : List (Nat × Nat))[i]?) ({ x with tombs := v } : GBatch).enc.toArray rest := by
  have h := fill_seg [(0, 1), (1, 1), (2, 1), (3, 1), (4, 1)] 4 4 1 rfl (([] : List Value) ++ ([(.int .i64 x.epoch)] ++ ([(.int .u64 x.time)] ++ ([(x.promises.val)] ++ ([(x.openings.val)]))))) ([(x.tombs.val)]) (([] : List Value)) ([(v.val)]) (v.val) rest (rfl) (by simp) (by simp) (by simp)
  have e1 : x.enc = (([] : List Value) ++ ([(.int .i64 x.epoch)] ++ ([(.int .u64 x.time)] ++ ([(x.promises.val)] ++ ([(x.openings.val)]))))) ++ ([(x.tombs.val)] ++ (([] : List Value))) := by simp [GBatch.enc]
  have e2 : ({ x with tombs := v } : GBatch).enc = (([] : List Value) ++ ([(.int .i64 x.epoch)] ++ ([(.int .u64 x.time)] ++ ([(x.promises.val)] ++ ([(x.openings.val)]))))) ++ ([(v.val)] ++ (([] : List Value))) := by simp [GBatch.enc]
  rw [e1, e2]; exact h
@[go_sem ↓ high] theorem xd_GBatch (ρ : Operand → Value) (dst : Option Tmp) (ps : Array (Nat × Operand)) (ty : TypeId) (pos : String) (after : Array Edge) (guard : Option (Nat × Bool)) : execOp ρ { dst, op := .build 74 ps, type := ty, pos, after, guard } = (do pure (.value (← gBuild 74 (ps.map fun (i, x) => (i, ρ x))))) := ex_build ..
@[go_sem ↓ high] theorem bd74_0 (w : World) (v0 : Int) (v1 : Int) : (gBuild 74 #[(0, (.int .i64 v0)), (1, (.int .u64 v1))]).run Try.prog w = .ok (GBatch.val ⟨v0, v1, default, default, default⟩) w := by
  rw [GBatch.val_eq]
  refine run_gBuild_of uu74 zr74 pl74 ?_ w
  show Instr.fill _ (GBatch.enc default).toArray [(0, (.int .i64 v0)), (1, (.int .u64 v1))] = _
  rw [fs74_0, fs74_1]; rfl
@[go_sem ↓ high] theorem bd74_1 (w : World) (v1 : Int) (v2 : Hdr) : (gBuild 74 #[(1, (.int .u64 v1)), (2, (v2.val))]).run Try.prog w = .ok (GBatch.val ⟨0, v1, v2, default, default⟩) w := by
  rw [GBatch.val_eq]
  refine run_gBuild_of uu74 zr74 pl74 ?_ w
  show Instr.fill _ (GBatch.enc default).toArray [(1, (.int .u64 v1)), (2, (v2.val))] = _
  rw [fs74_1, fs74_2]; rfl
@[go_sem ↓ high] theorem bd74_2 (w : World) (v0 : Int) (v1 : Int) (v3 : Hdr) (v4 : Hdr) : (gBuild 74 #[(0, (.int .i64 v0)), (1, (.int .u64 v1)), (3, (v3.val)), (4, (v4.val))]).run Try.prog w = .ok (GBatch.val ⟨v0, v1, default, v3, v4⟩) w := by
  rw [GBatch.val_eq]
  refine run_gBuild_of uu74 zr74 pl74 ?_ w
  show Instr.fill _ (GBatch.enc default).toArray [(0, (.int .i64 v0)), (1, (.int .u64 v1)), (3, (v3.val)), (4, (v4.val))] = _
  rw [fs74_0, fs74_1, fs74_3, fs74_4]; rfl
@[go_sem ↓ high] theorem bd74_3 (w : World) (v1 : Int) : (gBuild 74 #[(1, (.int .u64 v1))]).run Try.prog w = .ok (GBatch.val ⟨0, v1, default, default, default⟩) w := by
  rw [GBatch.val_eq]
  refine run_gBuild_of uu74 zr74 pl74 ?_ w
  show Instr.fill _ (GBatch.enc default).toArray [(1, (.int .u64 v1))] = _
  rw [fs74_1]; rfl

/-! ### gavel/api.Sig -/
structure GSig where
  by_ : Int
  mark : Int
deriving DecidableEq
instance : Inhabited GSig := ⟨⟨0, 0⟩⟩
def GSig.enc (x : GSig) : List Value := [(.int .i64 x.by_)] ++ ([(.int .i64 x.mark)])
theorem GSig.enc_len (x : GSig) : x.enc.length = 2 := by simp [GSig.enc]
theorem GSig.enc_one (x : GSig) : ∀ u ∈ x.enc, u.oneCell' = true := by
  intro u hu
  simp only [GSig.enc, List.mem_append, List.mem_singleton] at hu
  rcases hu with hu | hu
  · subst hu; rfl
  · subst hu; rfl
theorem GSig.enc_inj (x y : GSig) (h : x.enc = y.enc) : x = y := by
  obtain ⟨a0, a1⟩ := x
  obtain ⟨b0, b1⟩ := y
  simp only [GSig.enc] at h
  obtain ⟨p0, q0⟩ := List.append_inj h (rfl)
  have e0 : a0 = b0 := by have := List.head_eq_of_cons_eq p0; injection this
  have e1 : a1 = b1 := by have := List.head_eq_of_cons_eq q0; injection this
  rw [e0, e1]
instance : Enc GSig where
  n := 2
  enc := GSig.enc
  pos := by omega
  len := GSig.enc_len
  one := GSig.enc_one
  inj := GSig.enc_inj
@[go_sem] theorem GSig.n_eq : Enc.n GSig = 2 := rfl
@[irreducible] def GSig.val (x : GSig) : Value := .agg x.enc.toArray
theorem GSig.val_eq (x : GSig) : GSig.val x = .agg (Enc.enc x).toArray := by unfold GSig.val; rfl
theorem GSig.ext_all (x y : GSig) : x = y ↔ x.by_ = y.by_ ∧ x.mark = y.mark := by
  constructor
  · intro h; cases h; simp
  · intro h; cases x; cases y; simp_all
theorem uu82 : Try.prog.underlying 82 = some (.struct (Try.prog.fieldsOf 82)) := by kernel_rfl
theorem st82 : Try.prog.stoodInHeld 82 = false := by kernel_rfl
theorem fl82 : fieldTO Try.prog 82 = [(3, 0), (3, 1)] := by kernel_rfl
theorem nb82 : noBlank Try.prog 82 = true := by kernel_rfl
@[go_sem ↓ high] theorem xl_GSig (ρ : Operand → Value) (dst : Option Tmp) (x : Operand) (ty : TypeId) (pos : String) (after : Array Edge) (guard : Option (Nat × Bool)) : execOp ρ { dst, op := .load 82 x, type := ty, pos, after, guard } = (do pure (.value (← gLoad 82 (ρ x)))) := ex_load ..
@[go_sem ↓ high] theorem xs_GSig (ρ : Operand → Value) (dst : Option Tmp) (x y : Operand) (ty : TypeId) (pos : String) (after : Array Edge) (guard : Option (Nat × Bool)) : execOp ρ { dst, op := .store 82 x y, type := ty, pos, after, guard } = (do gStore 82 (ρ x) (ρ y); pure .skip) := ex_store ..
@[go_sem ↓ high] theorem xb_GSig (ρ : Operand → Value) (dst : Option Tmp) (x : Operand) (ty : TypeId) (pos : String) (after : Array Edge) (guard : Option (Nat × Bool)) : execOp ρ { dst, op := .box 82 x, type := ty, pos, after, guard } = (do pure (.value (← gBox 82 (ρ x)))) := ex_box ..
@[go_sem ↓ high] theorem xa_GSig (ρ : Operand → Value) (dst : Option Tmp) (ty : TypeId) (pos : String) (after : Array Edge) (guard : Option (Nat × Bool)) : execOp ρ { dst, op := .alloc 82, type := ty, pos, after, guard } = (do pure (.value (← gAlloc 82))) := ex_alloc ..
theorem ag82 : aggT Try.prog 82 = true := by kernel_rfl
theorem sz82 : sizeT Try.prog 82 = 2 := by kernel_rfl
section
variable (w : World)
@[go_sem ↓ high] theorem ld_GSig (a : Addr) : (gLoad 82 (.pointer (some a))).run Try.prog w = ofOpt ((get? GSig w a).map GSig.val) w (noLoad Try.prog 82 a w) := by
  unfold gLoad; exact run_loadAt_opt ag82 sz82 GSig.val GSig.val_eq
@[go_sem ↓ high] theorem st_GSig (a : Addr) (x : GSig) : (gStore 82 (.pointer (some a)) (GSig.val x)).run Try.prog w = okU' ((get? GSig w a).isSome && blkFree w a.block) (World.putCells w a (GSig.enc x)) (noStore Try.prog 82 (.pointer (some a)) (GSig.val x) w) := run_gStore_any sz82 GSig.val GSig.val_eq w a x
@[go_sem ↓ high] theorem bx_GSig (x : GSig) : (gBox 82 (GSig.val x)).run Try.prog w = .ok (.pointer (some ⟨w.heap.size, 0, none⟩)) (w.alloc (.cells (GSig.enc x).toArray 82)) := by
  rw [GSig.val_eq]; exact run_gBox _ w
end
theorem lk82_0 (x : GSig) : x.enc[0]? = some (.int .i64 x.by_) := by
  simp [GSig.enc, List.getElem?_append]
theorem pt82_0 (w : World) (x : GSig) : (part 3 x.enc.toArray 0).run Try.prog w = .ok (.int .i64 x.by_) w := run_part_one na3 us3 (lk82_0 x)
@[go_sem ↓ high] theorem fd82_0 (w : World) (x : GSig) : (gField 82 (GSig.val x) 0).run Try.prog w = .ok (.int .i64 x.by_) w := by
  rw [GSig.val_eq]
  exact run_gField w uu82 (by rw [fl82]; rfl) (pt82_0 w x)
theorem lk82_1 (x : GSig) : x.enc[1]? = some (.int .i64 x.mark) := by
  simp [GSig.enc, List.getElem?_append]
theorem pt82_1 (w : World) (x : GSig) : (part 3 x.enc.toArray 1).run Try.prog w = .ok (.int .i64 x.mark) w := run_part_one na3 us3 (lk82_1 x)
@[go_sem ↓ high] theorem fd82_1 (w : World) (x : GSig) : (gField 82 (GSig.val x) 1).run Try.prog w = .ok (.int .i64 x.mark) w := by
  rw [GSig.val_eq]
  exact run_gField w uu82 (by rw [fl82]; rfl) (pt82_1 w x)
@[go_sem ↓ high] theorem xf_GSig (ρ : Operand → Value) (dst : Option Tmp) (x : Operand) (i : Nat) (ty : TypeId) (pos : String) (after : Array Edge) (guard : Option (Nat × Bool)) : execOp ρ { dst, op := .field 82 x i, type := ty, pos, after, guard } = (do pure (.value (← gField 82 (ρ x) i))) := ex_field ..
theorem zr82 : zeroT Try.prog 82 = some (.agg (GSig.enc default).toArray) := by kernel_rfl
@[go_sem ↓ high] theorem al_GSig (w : World) : (gAlloc 82).run Try.prog w = .ok (.pointer (some ⟨w.heap.size, 0, none⟩)) (w.alloc (.cells (GSig.enc default).toArray 82)) := run_zero_alloc zr82 w
@[go_sem] theorem pc_GSig (w : World) (n : Nat) (x z : GSig) (hn : n = w.heap.size) : World.putCells (w.alloc (.cells (GSig.enc z).toArray 82)) ⟨n, 0, none⟩ (GSig.enc x) = w.alloc (.cells (GSig.enc x).toArray 82) := putCells_top x z hn
theorem GSig.at_by_ {w : World} {a : Addr} {x : GSig} (h : get? GSig w a = some x) : w.cell? (a.add 0) = some (.int .i64 x.by_) := (get?_iff.1 h) _ _ (lk82_0 x)
theorem GSig.at_mark {w : World} {a : Addr} {x : GSig} (h : get? GSig w a = some x) : w.cell? (a.add 1) = some (.int .i64 x.mark) := (get?_iff.1 h) _ _ (lk82_1 x)
@[go_sem] theorem nl82_0 (x : GSig) : x.enc[0]? = some (.int .i64 x.by_) := by
  have h := (GSig.at_by_ (get?_new (w := (default : World)) 82 x))
  simp only [Addr.add_lit, Nat.zero_add, Nat.reduceAdd, World.cell?_alloc_new, List.getElem?_toArray] at h
  exact h
@[go_sem] theorem nl82_1 (x : GSig) : x.enc[1]? = some (.int .i64 x.mark) := by
  have h := (GSig.at_mark (get?_new (w := (default : World)) 82 x))
  simp only [Addr.add_lit, Nat.zero_add, Nat.reduceAdd, World.cell?_alloc_new, List.getElem?_toArray] at h
  exact h
@[go_sem] theorem nw82 (w : World) (n : Nat) (x : GSig) (hn : n = w.heap.size) : get? GSig (w.alloc (.cells (GSig.enc x).toArray 82)) ⟨n, 0, none⟩ = some x := by
  subst hn; exact get?_new 82 x
theorem eq_GSig (w : World) (d : Nat) (x y : GSig) : (Op.equalIn (d + 2) 82 (GSig.val x) (GSig.val y)).run Try.prog w = .ok (decide (x = y)) w := by
  have q0 : ∀ a b, (Op.equalIn (d + 1) 3 (.int .i64 a) (.int .i64 b)).run Try.prog w = .ok (decide (a = b)) w := fun a b => by rw [run_equalIn_int w (d + 0) 3 .i64 .i64 a b uk3]; congr 1
  have q1 : ∀ a b, (Op.equalIn (d + 1) 3 (.int .i64 a) (.int .i64 b)).run Try.prog w = .ok (decide (a = b)) w := fun a b => by rw [run_equalIn_int w (d + 0) 3 .i64 .i64 a b uk3]; congr 1
  have h := run_equalIn_fields (d + 1) x.enc.toArray y.enc.toArray w uu82 st82 nb82
  rw [fl82] at h
  unfold GSig.val
  refine h.trans ?_
  clear h
  simp only [eqFs, Sem.run_bind, pt82_0, pt82_1, q0, q1, Result.andThen_ok, Sem.run_ite, Sem.run_pure]
  have he : decide (x = y) = (decide (x.by_ = y.by_) && (decide (x.mark = y.mark))) := by
    rw [Bool.eq_iff_iff]; simp only [Bool.and_eq_true, decide_eq_true_eq]; exact GSig.ext_all x y
  rw [he]
  generalize decide (x.by_ = y.by_) = c0; generalize decide (x.mark = y.mark) = c1
  cases c0 <;> cases c1 <;> simp
@[go_sem ↓ high] theorem xq_GSig (ρ : Operand → Value) (dst : Option Tmp) (x y : Operand) (ty yt : TypeId) (pos : String) (after : Array Edge) (guard : Option (Nat × Bool)) : execOp ρ { dst, op := .binOp .eql 82 x y yt, type := ty, pos, after, guard } = (do pure (.value (← gBin .eql 82 x y (ρ x) (ρ y)))) := ex_eql ..
@[go_sem ↓ high] theorem xn_GSig (ρ : Operand → Value) (dst : Option Tmp) (x y : Operand) (ty yt : TypeId) (pos : String) (after : Array Edge) (guard : Option (Nat × Bool)) : execOp ρ { dst, op := .binOp .neq 82 x y yt, type := ty, pos, after, guard } = (do pure (.value (← gBin .neq 82 x y (ρ x) (ρ y)))) := ex_neq ..
theorem eg_GSig : Try.prog.eqGuardType Try.prog.depth 82 = false := by kernel_rfl
@[go_sem ↓ high] theorem eql_GSig (w : World) (ox oy : Operand) (x y : GSig) : (gBin .eql 82 ox oy (GSig.val x) (GSig.val y)).run Try.prog w = .ok (.bool (decide (x = y))) w := by
  have h2 := eq_GSig w 9998 x y
  rw [GSig.val_eq, GSig.val_eq] at h2 ⊢
  have h := run_eqGuard_agg (P := Try.prog) w .eql 82 ox oy (Enc.enc x).toArray (Enc.enc y).toArray eg_GSig
  unfold gBin
  simp only [Sem.run_bind, h, Result.andThen_ok, run_eql_struct, h2]
@[go_sem ↓ high] theorem neq_GSig (w : World) (ox oy : Operand) (x y : GSig) : (gBin .neq 82 ox oy (GSig.val x) (GSig.val y)).run Try.prog w = .ok (.bool (!decide (x = y))) w := by
  have h2 := eq_GSig w 9998 x y
  rw [GSig.val_eq, GSig.val_eq] at h2 ⊢
  have h := run_eqGuard_agg (P := Try.prog) w .neq 82 ox oy (Enc.enc x).toArray (Enc.enc y).toArray eg_GSig
  unfold gBin
  simp only [Sem.run_bind, h, Result.andThen_ok, run_neq_struct, h2]

/-! ### gavel/api.Promise -/
structure GPromise where
  replica : Int
  epoch : Int
  floor : Int
  certs : Hdr
  sig : GSig
deriving DecidableEq
instance : Inhabited GPromise := ⟨⟨0, 0, 0, default, default⟩⟩
def GPromise.enc (x : GPromise) : List Value := [(.int .i64 x.replica)] ++ ([(.int .i64 x.epoch)] ++ ([(.int .u64 x.floor)] ++ ([(x.certs.val)] ++ (x.sig.enc))))
theorem GPromise.enc_len (x : GPromise) : x.enc.length = 6 := by simp [GPromise.enc, GSig.enc_len]
theorem GPromise.enc_one (x : GPromise) : ∀ u ∈ x.enc, u.oneCell' = true := by
  intro u hu
  simp only [GPromise.enc, List.mem_append, List.mem_singleton] at hu
  rcases hu with hu | hu | hu | hu | hu
  · subst hu; rfl
  · subst hu; rfl
  · subst hu; rfl
  · subst hu; rfl
  · exact Enc.one (α := GSig) _ _ hu
theorem GPromise.enc_inj (x y : GPromise) (h : x.enc = y.enc) : x = y := by
  obtain ⟨a0, a1, a2, a3, a4⟩ := x
  obtain ⟨b0, b1, b2, b3, b4⟩ := y
  simp only [GPromise.enc] at h
  obtain ⟨p0, q0⟩ := List.append_inj h (rfl)
  have e0 : a0 = b0 := by have := List.head_eq_of_cons_eq p0; injection this
  obtain ⟨p1, q1⟩ := List.append_inj q0 (rfl)
  have e1 : a1 = b1 := by have := List.head_eq_of_cons_eq p1; injection this
  obtain ⟨p2, q2⟩ := List.append_inj q1 (rfl)
  have e2 : a2 = b2 := by have := List.head_eq_of_cons_eq p2; injection this
  obtain ⟨p3, q3⟩ := List.append_inj q2 (rfl)
  have e3 : a3 = b3 := Enc.inj (α := Hdr) _ _ p3
  have e4 := Enc.inj (α := GSig) _ _ q3
  rw [e0, e1, e2, e3, e4]
instance : Enc GPromise where
  n := 6
  enc := GPromise.enc
  pos := by omega
  len := GPromise.enc_len
  one := GPromise.enc_one
  inj := GPromise.enc_inj
@[go_sem] theorem GPromise.n_eq : Enc.n GPromise = 6 := rfl
@[irreducible] def GPromise.val (x : GPromise) : Value := .agg x.enc.toArray
theorem GPromise.val_eq (x : GPromise) : GPromise.val x = .agg (Enc.enc x).toArray := by unfold GPromise.val; rfl
theorem GPromise.ext_all (x y : GPromise) : x = y ↔ x.replica = y.replica ∧ x.epoch = y.epoch ∧ x.floor = y.floor ∧ x.certs = y.certs ∧ x.sig = y.sig := by
  constructor
  · intro h; cases h; simp
  · intro h; cases x; cases y; simp_all
theorem uu92 : Try.prog.underlying 92 = some (.struct (Try.prog.fieldsOf 92)) := by kernel_rfl
theorem st92 : Try.prog.stoodInHeld 92 = false := by kernel_rfl
theorem fl92 : fieldTO Try.prog 92 = [(3, 0), (3, 1), (28, 2), (90, 3), (82, 4)] := by kernel_rfl
theorem nb92 : noBlank Try.prog 92 = true := by kernel_rfl
@[go_sem ↓ high] theorem xl_GPromise (ρ : Operand → Value) (dst : Option Tmp) (x : Operand) (ty : TypeId) (pos : String) (after : Array Edge) (guard : Option (Nat × Bool)) : execOp ρ { dst, op := .load 92 x, type := ty, pos, after, guard } = (do pure (.value (← gLoad 92 (ρ x)))) := ex_load ..
@[go_sem ↓ high] theorem xs_GPromise (ρ : Operand → Value) (dst : Option Tmp) (x y : Operand) (ty : TypeId) (pos : String) (after : Array Edge) (guard : Option (Nat × Bool)) : execOp ρ { dst, op := .store 92 x y, type := ty, pos, after, guard } = (do gStore 92 (ρ x) (ρ y); pure .skip) := ex_store ..
@[go_sem ↓ high] theorem xb_GPromise (ρ : Operand → Value) (dst : Option Tmp) (x : Operand) (ty : TypeId) (pos : String) (after : Array Edge) (guard : Option (Nat × Bool)) : execOp ρ { dst, op := .box 92 x, type := ty, pos, after, guard } = (do pure (.value (← gBox 92 (ρ x)))) := ex_box ..
@[go_sem ↓ high] theorem xa_GPromise (ρ : Operand → Value) (dst : Option Tmp) (ty : TypeId) (pos : String) (after : Array Edge) (guard : Option (Nat × Bool)) : execOp ρ { dst, op := .alloc 92, type := ty, pos, after, guard } = (do pure (.value (← gAlloc 92))) := ex_alloc ..
theorem ag92 : aggT Try.prog 92 = true := by kernel_rfl
theorem sz92 : sizeT Try.prog 92 = 6 := by kernel_rfl
section
variable (w : World)
@[go_sem ↓ high] theorem ld_GPromise (a : Addr) : (gLoad 92 (.pointer (some a))).run Try.prog w = ofOpt ((get? GPromise w a).map GPromise.val) w (noLoad Try.prog 92 a w) := by
  unfold gLoad; exact run_loadAt_opt ag92 sz92 GPromise.val GPromise.val_eq
@[go_sem ↓ high] theorem st_GPromise (a : Addr) (x : GPromise) : (gStore 92 (.pointer (some a)) (GPromise.val x)).run Try.prog w = okU' ((get? GPromise w a).isSome && blkFree w a.block) (World.putCells w a (GPromise.enc x)) (noStore Try.prog 92 (.pointer (some a)) (GPromise.val x) w) := run_gStore_any sz92 GPromise.val GPromise.val_eq w a x
@[go_sem ↓ high] theorem bx_GPromise (x : GPromise) : (gBox 92 (GPromise.val x)).run Try.prog w = .ok (.pointer (some ⟨w.heap.size, 0, none⟩)) (w.alloc (.cells (GPromise.enc x).toArray 92)) := by
  rw [GPromise.val_eq]; exact run_gBox _ w
end
theorem lk92_0 (x : GPromise) : x.enc[0]? = some (.int .i64 x.replica) := by
  simp [GPromise.enc, List.getElem?_append]
theorem pt92_0 (w : World) (x : GPromise) : (part 3 x.enc.toArray 0).run Try.prog w = .ok (.int .i64 x.replica) w := run_part_one na3 us3 (lk92_0 x)
@[go_sem ↓ high] theorem fd92_0 (w : World) (x : GPromise) : (gField 92 (GPromise.val x) 0).run Try.prog w = .ok (.int .i64 x.replica) w := by
  rw [GPromise.val_eq]
  exact run_gField w uu92 (by rw [fl92]; rfl) (pt92_0 w x)
theorem lk92_1 (x : GPromise) : x.enc[1]? = some (.int .i64 x.epoch) := by
  simp [GPromise.enc, List.getElem?_append]
theorem pt92_1 (w : World) (x : GPromise) : (part 3 x.enc.toArray 1).run Try.prog w = .ok (.int .i64 x.epoch) w := run_part_one na3 us3 (lk92_1 x)
@[go_sem ↓ high] theorem fd92_1 (w : World) (x : GPromise) : (gField 92 (GPromise.val x) 1).run Try.prog w = .ok (.int .i64 x.epoch) w := by
  rw [GPromise.val_eq]
  exact run_gField w uu92 (by rw [fl92]; rfl) (pt92_1 w x)
theorem lk92_2 (x : GPromise) : x.enc[2]? = some (.int .u64 x.floor) := by
  simp [GPromise.enc, List.getElem?_append]
theorem pt92_2 (w : World) (x : GPromise) : (part 28 x.enc.toArray 2).run Try.prog w = .ok (.int .u64 x.floor) w := run_part_one na28 us28 (lk92_2 x)
@[go_sem ↓ high] theorem fd92_2 (w : World) (x : GPromise) : (gField 92 (GPromise.val x) 2).run Try.prog w = .ok (.int .u64 x.floor) w := by
  rw [GPromise.val_eq]
  exact run_gField w uu92 (by rw [fl92]; rfl) (pt92_2 w x)
theorem lk92_3 (x : GPromise) : x.enc[3]? = some (x.certs.val) := by
  simp [GPromise.enc, List.getElem?_append]
theorem pt92_3 (w : World) (x : GPromise) : (part 90 x.enc.toArray 3).run Try.prog w = .ok (x.certs.val) w := run_part_one na90 us90 (lk92_3 x)
@[go_sem ↓ high] theorem fd92_3 (w : World) (x : GPromise) : (gField 92 (GPromise.val x) 3).run Try.prog w = .ok (x.certs.val) w := by
  rw [GPromise.val_eq]
  exact run_gField w uu92 (by rw [fl92]; rfl) (pt92_3 w x)
theorem ds92_4 (x : GPromise) : (x.enc.drop 4).take 2 = x.sig.enc := by
  unfold GPromise.enc
  simp [List.drop_append, List.drop_eq_nil_of_le]
  exact List.take_of_length_le (by simp [GSig.enc_len])
theorem pt92_4 (w : World) (x : GPromise) : (part 82 x.enc.toArray 4).run Try.prog w = .ok (x.sig.val) w := by
  have h := run_part_agg (P := Try.prog) (w := w) (cs := x.enc) (ds := x.sig.enc) (off := 4) ag82 (by rw [GSig.enc_len]; exact sz82) (by simp [GSig.enc_len]) (by rw [GSig.enc_len]; exact ds92_4 x)
  rw [h, GSig.val_eq]; rfl
@[go_sem ↓ high] theorem fd92_4 (w : World) (x : GPromise) : (gField 92 (GPromise.val x) 4).run Try.prog w = .ok (x.sig.val) w := by
  rw [GPromise.val_eq]
  exact run_gField w uu92 (by rw [fl92]; rfl) (pt92_4 w x)
@[go_sem ↓ high] theorem xf_GPromise (ρ : Operand → Value) (dst : Option Tmp) (x : Operand) (i : Nat) (ty : TypeId) (pos : String) (after : Array Edge) (guard : Option (Nat × Bool)) : execOp ρ { dst, op := .field 92 x i, type := ty, pos, after, guard } = (do pure (.value (← gField 92 (ρ x) i))) := ex_field ..
theorem zr92 : zeroT Try.prog 92 = some (.agg (GPromise.enc default).toArray) := by kernel_rfl
@[go_sem ↓ high] theorem al_GPromise (w : World) : (gAlloc 92).run Try.prog w = .ok (.pointer (some ⟨w.heap.size, 0, none⟩)) (w.alloc (.cells (GPromise.enc default).toArray 92)) := run_zero_alloc zr92 w
@[go_sem] theorem pc_GPromise (w : World) (n : Nat) (x z : GPromise) (hn : n = w.heap.size) : World.putCells (w.alloc (.cells (GPromise.enc z).toArray 92)) ⟨n, 0, none⟩ (GPromise.enc x) = w.alloc (.cells (GPromise.enc x).toArray 92) := putCells_top x z hn
theorem GPromise.at_replica {w : World} {a : Addr} {x : GPromise} (h : get? GPromise w a = some x) : w.cell? (a.add 0) = some (.int .i64 x.replica) := (get?_iff.1 h) _ _ (lk92_0 x)
theorem GPromise.at_epoch {w : World} {a : Addr} {x : GPromise} (h : get? GPromise w a = some x) : w.cell? (a.add 1) = some (.int .i64 x.epoch) := (get?_iff.1 h) _ _ (lk92_1 x)
theorem GPromise.at_floor {w : World} {a : Addr} {x : GPromise} (h : get? GPromise w a = some x) : w.cell? (a.add 2) = some (.int .u64 x.floor) := (get?_iff.1 h) _ _ (lk92_2 x)
theorem GPromise.at_certs {w : World} {a : Addr} {x : GPromise} (h : get? GPromise w a = some x) : w.cell? (a.add 3) = some (x.certs.val) := (get?_iff.1 h) _ _ (lk92_3 x)
theorem GPromise.at_sig {w : World} {a : Addr} {x : GPromise} (h : get? GPromise w a = some x) : get? GSig w (a.add 4) = some x.sig := by
  rw [get?_iff] at h ⊢
  refine h.sub 4 fun j v hv => ?_
  have hd := ds92_4 x
  have hj : j < 2 := by have := (List.getElem?_eq_some_iff.1 hv).1; rwa [Enc.len] at this
  show x.enc[4 + j]? = some v
  rw [← List.getElem?_drop, ← List.getElem?_take_of_lt hj, hd]; exact hv
@[go_sem] theorem nl92_0 (x : GPromise) : x.enc[0]? = some (.int .i64 x.replica) := by
  have h := (GPromise.at_replica (get?_new (w := (default : World)) 92 x))
  simp only [Addr.add_lit, Nat.zero_add, Nat.reduceAdd, World.cell?_alloc_new, List.getElem?_toArray] at h
  exact h
@[go_sem] theorem nl92_1 (x : GPromise) : x.enc[1]? = some (.int .i64 x.epoch) := by
  have h := (GPromise.at_epoch (get?_new (w := (default : World)) 92 x))
  simp only [Addr.add_lit, Nat.zero_add, Nat.reduceAdd, World.cell?_alloc_new, List.getElem?_toArray] at h
  exact h
@[go_sem] theorem nl92_2 (x : GPromise) : x.enc[2]? = some (.int .u64 x.floor) := by
  have h := (GPromise.at_floor (get?_new (w := (default : World)) 92 x))
  simp only [Addr.add_lit, Nat.zero_add, Nat.reduceAdd, World.cell?_alloc_new, List.getElem?_toArray] at h
  exact h
@[go_sem] theorem nl92_3 (x : GPromise) : x.enc[3]? = some (x.certs.val) := by
  have h := (GPromise.at_certs (get?_new (w := (default : World)) 92 x))
  simp only [Addr.add_lit, Nat.zero_add, Nat.reduceAdd, World.cell?_alloc_new, List.getElem?_toArray] at h
  exact h
@[go_sem] theorem nw92_4_GSig (w : World) (n : Nat) (x : GPromise) (hn : n = w.heap.size) : get? GSig (w.alloc (.cells (GPromise.enc x).toArray 92)) ⟨n, 4, none⟩ = some x.sig := by
  subst hn
  have h := (GPromise.at_sig (get?_new (w := w) 92 x))
  simp only [Addr.add_lit, Nat.zero_add, Nat.reduceAdd] at h
  exact h
@[go_sem] theorem nl92_4 (x : GPromise) : x.enc[4]? = some (.int .i64 x.sig.by_) := by
  have h := (GSig.at_by_ (GPromise.at_sig (get?_new (w := (default : World)) 92 x)))
  simp only [Addr.add_lit, Nat.zero_add, Nat.reduceAdd, World.cell?_alloc_new, List.getElem?_toArray] at h
  exact h
@[go_sem] theorem nl92_5 (x : GPromise) : x.enc[5]? = some (.int .i64 x.sig.mark) := by
  have h := (GSig.at_mark (GPromise.at_sig (get?_new (w := (default : World)) 92 x)))
  simp only [Addr.add_lit, Nat.zero_add, Nat.reduceAdd, World.cell?_alloc_new, List.getElem?_toArray] at h
  exact h
@[go_sem] theorem nw92 (w : World) (n : Nat) (x : GPromise) (hn : n = w.heap.size) : get? GPromise (w.alloc (.cells (GPromise.enc x).toArray 92)) ⟨n, 0, none⟩ = some x := by
  subst hn; exact get?_new 92 x
theorem pl92 : ((Try.prog.fieldsOf 92).toList.mapM fun f => (Try.prog.info? f.type).map fun i => (f.offset, i.size)) = some [(0, 1), (1, 1), (2, 1), (3, 1), (4, 2)] := by kernel_rfl
theorem fs92_3 (x : GPromise) (v : Hdr) (rest : List (Nat × Value)) : Instr.fill (fun i => ([(0, 1), (1, 1), (2, 1), (3, 1), (4, 2)] : List (Nat × Nat))[i]?) x.enc.toArray ((3, (v.val)) :: rest) = Instr.fill (fun i => ([(0, 1), (1, 1), (2, 1), (3, 1), (4, 2)] : List (Nat × Nat))[i]?) ({ x with certs := v } : GPromise).enc.toArray rest := by
  have h := fill_seg [(0, 1), (1, 1), (2, 1), (3, 1), (4, 2)] 3 3 1 rfl (([] : List Value) ++ ([(.int .i64 x.replica)] ++ ([(.int .i64 x.epoch)] ++ ([(.int .u64 x.floor)])))) ([(x.certs.val)]) (x.sig.enc ++ (([] : List Value))) ([(v.val)]) (v.val) rest (rfl) (by simp [GSig.enc_len]) (by simp [GSig.enc_len]) (by simp [GSig.enc_len])
  have e1 : x.enc = (([] : List Value) ++ ([(.int .i64 x.replica)] ++ ([(.int .i64 x.epoch)] ++ ([(.int .u64 x.floor)])))) ++ ([(x.certs.val)] ++ (x.sig.enc ++ (([] : List Value)))) := by simp [GPromise.enc]
  have e2 : ({ x with certs := v } : GPromise).enc = (([] : List Value) ++ ([(.int .i64 x.replica)] ++ ([(.int .i64 x.epoch)] ++ ([(.int .u64 x.floor)])))) ++ ([(v.val)] ++ (x.sig.enc ++ (([] : List Value)))) := by simp [GPromise.enc]
  rw [e1, e2]; exact h
@[go_sem ↓ high] theorem xd_GPromise (ρ : Operand → Value) (dst : Option Tmp) (ps : Array (Nat × Operand)) (ty : TypeId) (pos : String) (after : Array Edge) (guard : Option (Nat × Bool)) : execOp ρ { dst, op := .build 92 ps, type := ty, pos, after, guard } = (do pure (.value (← gBuild 92 (ps.map fun (i, x) => (i, ρ x))))) := ex_build ..
@[go_sem ↓ high] theorem bd92_0 (w : World) (v3 : Hdr) : (gBuild 92 #[(3, (v3.val))]).run Try.prog w = .ok (GPromise.val ⟨0, 0, 0, v3, default⟩) w := by
  rw [GPromise.val_eq]
  refine run_gBuild_of uu92 zr92 pl92 ?_ w
  show Instr.fill _ (GPromise.enc default).toArray [(3, (v3.val))] = _
  rw [fs92_3]; rfl

/-! ### gavel/api.Opening -/
structure GOpening where
  index : Int
  payload : Hdr
  nonce : GHash
deriving DecidableEq
instance : Inhabited GOpening := ⟨⟨0, default, default⟩⟩
def GOpening.enc (x : GOpening) : List Value := [(.int .i64 x.index)] ++ ([(x.payload.val)] ++ (x.nonce.enc))
theorem GOpening.enc_len (x : GOpening) : x.enc.length = 34 := by simp [GOpening.enc, GHash.enc_len]
theorem GOpening.enc_one (x : GOpening) : ∀ u ∈ x.enc, u.oneCell' = true := by
  intro u hu
  simp only [GOpening.enc, List.mem_append, List.mem_singleton] at hu
  rcases hu with hu | hu | hu
  · subst hu; rfl
  · subst hu; rfl
  · exact Enc.one (α := GHash) _ _ hu
theorem GOpening.enc_inj (x y : GOpening) (h : x.enc = y.enc) : x = y := by
  obtain ⟨a0, a1, a2⟩ := x
  obtain ⟨b0, b1, b2⟩ := y
  simp only [GOpening.enc] at h
  obtain ⟨p0, q0⟩ := List.append_inj h (rfl)
  have e0 : a0 = b0 := by have := List.head_eq_of_cons_eq p0; injection this
  obtain ⟨p1, q1⟩ := List.append_inj q0 (rfl)
  have e1 : a1 = b1 := Enc.inj (α := Hdr) _ _ p1
  have e2 := Enc.inj (α := GHash) _ _ q1
  rw [e0, e1, e2]
instance : Enc GOpening where
  n := 34
  enc := GOpening.enc
  pos := by omega
  len := GOpening.enc_len
  one := GOpening.enc_one
  inj := GOpening.enc_inj
@[go_sem] theorem GOpening.n_eq : Enc.n GOpening = 34 := rfl
@[irreducible] def GOpening.val (x : GOpening) : Value := .agg x.enc.toArray
theorem GOpening.val_eq (x : GOpening) : GOpening.val x = .agg (Enc.enc x).toArray := by unfold GOpening.val; rfl
theorem GOpening.ext_all (x y : GOpening) : x = y ↔ x.index = y.index ∧ x.payload = y.payload ∧ x.nonce = y.nonce := by
  constructor
  · intro h; cases h; simp
  · intro h; cases x; cases y; simp_all
theorem uu94 : Try.prog.underlying 94 = some (.struct (Try.prog.fieldsOf 94)) := by kernel_rfl
theorem st94 : Try.prog.stoodInHeld 94 = false := by kernel_rfl
theorem fl94 : fieldTO Try.prog 94 = [(3, 0), (79, 1), (27, 2)] := by kernel_rfl
theorem nb94 : noBlank Try.prog 94 = true := by kernel_rfl
@[go_sem ↓ high] theorem xl_GOpening (ρ : Operand → Value) (dst : Option Tmp) (x : Operand) (ty : TypeId) (pos : String) (after : Array Edge) (guard : Option (Nat × Bool)) : execOp ρ { dst, op := .load 94 x, type := ty, pos, after, guard } = (do pure (.value (← gLoad 94 (ρ x)))) := ex_load ..
@[go_sem ↓ high] theorem xs_GOpening (ρ : Operand → Value) (dst : Option Tmp) (x y : Operand) (ty : TypeId) (pos : String) (after : Array Edge) (guard : Option (Nat × Bool)) : execOp ρ { dst, op := .store 94 x y, type := ty, pos, after, guard } = (do gStore 94 (ρ x) (ρ y); pure .skip) := ex_store ..
@[go_sem ↓ high] theorem xb_GOpening (ρ : Operand → Value) (dst : Option Tmp) (x : Operand) (ty : TypeId) (pos : String) (after : Array Edge) (guard : Option (Nat × Bool)) : execOp ρ { dst, op := .box 94 x, type := ty, pos, after, guard } = (do pure (.value (← gBox 94 (ρ x)))) := ex_box ..
@[go_sem ↓ high] theorem xa_GOpening (ρ : Operand → Value) (dst : Option Tmp) (ty : TypeId) (pos : String) (after : Array Edge) (guard : Option (Nat × Bool)) : execOp ρ { dst, op := .alloc 94, type := ty, pos, after, guard } = (do pure (.value (← gAlloc 94))) := ex_alloc ..
theorem ag94 : aggT Try.prog 94 = true := by kernel_rfl
theorem sz94 : sizeT Try.prog 94 = 34 := by kernel_rfl
section
variable (w : World)
@[go_sem ↓ high] theorem ld_GOpening (a : Addr) : (gLoad 94 (.pointer (some a))).run Try.prog w = ofOpt ((get? GOpening w a).map GOpening.val) w (noLoad Try.prog 94 a w) := by
  unfold gLoad; exact run_loadAt_opt ag94 sz94 GOpening.val GOpening.val_eq
@[go_sem ↓ high] theorem st_GOpening (a : Addr) (x : GOpening) : (gStore 94 (.pointer (some a)) (GOpening.val x)).run Try.prog w = okU' ((get? GOpening w a).isSome && blkFree w a.block) (World.putCells w a (GOpening.enc x)) (noStore Try.prog 94 (.pointer (some a)) (GOpening.val x) w) := run_gStore_any sz94 GOpening.val GOpening.val_eq w a x
@[go_sem ↓ high] theorem bx_GOpening (x : GOpening) : (gBox 94 (GOpening.val x)).run Try.prog w = .ok (.pointer (some ⟨w.heap.size, 0, none⟩)) (w.alloc (.cells (GOpening.enc x).toArray 94)) := by
  rw [GOpening.val_eq]; exact run_gBox _ w
end
theorem lk94_0 (x : GOpening) : x.enc[0]? = some (.int .i64 x.index) := by
  simp [GOpening.enc, List.getElem?_append]
theorem pt94_0 (w : World) (x : GOpening) : (part 3 x.enc.toArray 0).run Try.prog w = .ok (.int .i64 x.index) w := run_part_one na3 us3 (lk94_0 x)
@[go_sem ↓ high] theorem fd94_0 (w : World) (x : GOpening) : (gField 94 (GOpening.val x) 0).run Try.prog w = .ok (.int .i64 x.index) w := by
  rw [GOpening.val_eq]
  exact run_gField w uu94 (by rw [fl94]; rfl) (pt94_0 w x)
theorem lk94_1 (x : GOpening) : x.enc[1]? = some (x.payload.val) := by
  simp [GOpening.enc, List.getElem?_append]
theorem pt94_1 (w : World) (x : GOpening) : (part 79 x.enc.toArray 1).run Try.prog w = .ok (x.payload.val) w := run_part_one na79 us79 (lk94_1 x)
@[go_sem ↓ high] theorem fd94_1 (w : World) (x : GOpening) : (gField 94 (GOpening.val x) 1).run Try.prog w = .ok (x.payload.val) w := by
  rw [GOpening.val_eq]
  exact run_gField w uu94 (by rw [fl94]; rfl) (pt94_1 w x)
theorem ds94_2 (x : GOpening) : (x.enc.drop 2).take 32 = x.nonce.enc := by
  unfold GOpening.enc
  simp [List.drop_append, List.drop_eq_nil_of_le]
  exact List.take_of_length_le (by simp [GHash.enc_len])
theorem pt94_2 (w : World) (x : GOpening) : (part 27 x.enc.toArray 2).run Try.prog w = .ok (x.nonce.val) w := by
  have h := run_part_agg (P := Try.prog) (w := w) (cs := x.enc) (ds := x.nonce.enc) (off := 2) ag27 (by rw [GHash.enc_len]; exact sz27) (by simp [GHash.enc_len]) (by rw [GHash.enc_len]; exact ds94_2 x)
  rw [h, GHash.val_eq]; rfl
@[go_sem ↓ high] theorem fd94_2 (w : World) (x : GOpening) : (gField 94 (GOpening.val x) 2).run Try.prog w = .ok (x.nonce.val) w := by
  rw [GOpening.val_eq]
  exact run_gField w uu94 (by rw [fl94]; rfl) (pt94_2 w x)
@[go_sem ↓ high] theorem xf_GOpening (ρ : Operand → Value) (dst : Option Tmp) (x : Operand) (i : Nat) (ty : TypeId) (pos : String) (after : Array Edge) (guard : Option (Nat × Bool)) : execOp ρ { dst, op := .field 94 x i, type := ty, pos, after, guard } = (do pure (.value (← gField 94 (ρ x) i))) := ex_field ..
theorem zr94 : zeroT Try.prog 94 = some (.agg (GOpening.enc default).toArray) := by kernel_rfl
@[go_sem ↓ high] theorem al_GOpening (w : World) : (gAlloc 94).run Try.prog w = .ok (.pointer (some ⟨w.heap.size, 0, none⟩)) (w.alloc (.cells (GOpening.enc default).toArray 94)) := run_zero_alloc zr94 w
@[go_sem] theorem pc_GOpening (w : World) (n : Nat) (x z : GOpening) (hn : n = w.heap.size) : World.putCells (w.alloc (.cells (GOpening.enc z).toArray 94)) ⟨n, 0, none⟩ (GOpening.enc x) = w.alloc (.cells (GOpening.enc x).toArray 94) := putCells_top x z hn
theorem GOpening.at_index {w : World} {a : Addr} {x : GOpening} (h : get? GOpening w a = some x) : w.cell? (a.add 0) = some (.int .i64 x.index) := (get?_iff.1 h) _ _ (lk94_0 x)
theorem GOpening.at_payload {w : World} {a : Addr} {x : GOpening} (h : get? GOpening w a = some x) : w.cell? (a.add 1) = some (x.payload.val) := (get?_iff.1 h) _ _ (lk94_1 x)
theorem GOpening.at_nonce {w : World} {a : Addr} {x : GOpening} (h : get? GOpening w a = some x) : get? GHash w (a.add 2) = some x.nonce := by
  rw [get?_iff] at h ⊢
  refine h.sub 2 fun j v hv => ?_
  have hd := ds94_2 x
  have hj : j < 32 := by have := (List.getElem?_eq_some_iff.1 hv).1; rwa [Enc.len] at this
  show x.enc[2 + j]? = some v
  rw [← List.getElem?_drop, ← List.getElem?_take_of_lt hj, hd]; exact hv
@[go_sem] theorem nl94_0 (x : GOpening) : x.enc[0]? = some (.int .i64 x.index) := by
  have h := (GOpening.at_index (get?_new (w := (default : World)) 94 x))
  simp only [Addr.add_lit, Nat.zero_add, Nat.reduceAdd, World.cell?_alloc_new, List.getElem?_toArray] at h
  exact h
@[go_sem] theorem nl94_1 (x : GOpening) : x.enc[1]? = some (x.payload.val) := by
  have h := (GOpening.at_payload (get?_new (w := (default : World)) 94 x))
  simp only [Addr.add_lit, Nat.zero_add, Nat.reduceAdd, World.cell?_alloc_new, List.getElem?_toArray] at h
  exact h
@[go_sem] theorem nw94_2_GHash (w : World) (n : Nat) (x : GOpening) (hn : n = w.heap.size) : get? GHash (w.alloc (.cells (GOpening.enc x).toArray 94)) ⟨n, 2, none⟩ = some x.nonce := by
  subst hn
  have h := (GOpening.at_nonce (get?_new (w := w) 94 x))
  simp only [Addr.add_lit, Nat.zero_add, Nat.reduceAdd] at h
  exact h
@[go_sem] theorem nw94 (w : World) (n : Nat) (x : GOpening) (hn : n = w.heap.size) : get? GOpening (w.alloc (.cells (GOpening.enc x).toArray 94)) ⟨n, 0, none⟩ = some x := by
  subst hn; exact get?_new 94 x
theorem pl94 : ((Try.prog.fieldsOf 94).toList.mapM fun f => (Try.prog.info? f.type).map fun i => (f.offset, i.size)) = some [(0, 1), (1, 1), (2, 32)] := by kernel_rfl
theorem fs94_0 (x : GOpening) (v : Int) (rest : List (Nat × Value)) : Instr.fill (fun i => ([(0, 1), (1, 1), (2, 32)] : List (Nat × Nat))[i]?) x.enc.toArray ((0, (.int .i64 v)) :: rest) = Instr.fill (fun i => ([(0, 1), (1, 1), (2, 32)] : List (Nat × Nat))[i]?) ({ x with index := v } : GOpening).enc.toArray rest := by
  have h := fill_seg [(0, 1), (1, 1), (2, 32)] 0 0 1 rfl (([] : List Value)) ([(.int .i64 x.index)]) ([(x.payload.val)] ++ (x.nonce.enc ++ (([] : List Value)))) ([(.int .i64 v)]) (.int .i64 v) rest (rfl) (by simp [GHash.enc_len]) (by simp [GHash.enc_len]) (by simp [GHash.enc_len])
  have e1 : x.enc = (([] : List Value)) ++ ([(.int .i64 x.index)] ++ ([(x.payload.val)] ++ (x.nonce.enc ++ (([] : List Value))))) := by simp [GOpening.enc]
  have e2 : ({ x with index := v } : GOpening).enc = (([] : List Value)) ++ ([(.int .i64 v)] ++ ([(x.payload.val)] ++ (x.nonce.enc ++ (([] : List Value))))) := by simp [GOpening.enc]
  rw [e1, e2]; exact h
theorem fs94_1 (x : GOpening) (v : Hdr) (rest : List (Nat × Value)) : Instr.fill (fun i => ([(0, 1), (1, 1), (2, 32)] : List (Nat × Nat))[i]?) x.enc.toArray ((1, (v.val)) :: rest) = Instr.fill (fun i => ([(0, 1), (1, 1), (2, 32)] : List (Nat × Nat))[i]?) ({ x with payload := v } : GOpening).enc.toArray rest := by
  have h := fill_seg [(0, 1), (1, 1), (2, 32)] 1 1 1 rfl (([] : List Value) ++ ([(.int .i64 x.index)])) ([(x.payload.val)]) (x.nonce.enc ++ (([] : List Value))) ([(v.val)]) (v.val) rest (rfl) (by simp [GHash.enc_len]) (by simp [GHash.enc_len]) (by simp [GHash.enc_len])
  have e1 : x.enc = (([] : List Value) ++ ([(.int .i64 x.index)])) ++ ([(x.payload.val)] ++ (x.nonce.enc ++ (([] : List Value)))) := by simp [GOpening.enc]
  have e2 : ({ x with payload := v } : GOpening).enc = (([] : List Value) ++ ([(.int .i64 x.index)])) ++ ([(v.val)] ++ (x.nonce.enc ++ (([] : List Value)))) := by simp [GOpening.enc]
  rw [e1, e2]; exact h
@[go_sem ↓ high] theorem xd_GOpening (ρ : Operand → Value) (dst : Option Tmp) (ps : Array (Nat × Operand)) (ty : TypeId) (pos : String) (after : Array Edge) (guard : Option (Nat × Bool)) : execOp ρ { dst, op := .build 94 ps, type := ty, pos, after, guard } = (do pure (.value (← gBuild 94 (ps.map fun (i, x) => (i, ρ x))))) := ex_build ..
@[go_sem ↓ high] theorem bd94_0 (w : World) (v1 : Hdr) : (gBuild 94 #[(1, (v1.val))]).run Try.prog w = .ok (GOpening.val ⟨0, v1, default⟩) w := by
  rw [GOpening.val_eq]
  refine run_gBuild_of uu94 zr94 pl94 ?_ w
  show Instr.fill _ (GOpening.enc default).toArray [(1, (v1.val))] = _
  rw [fs94_1]; rfl
@[go_sem ↓ high] theorem bd94_1 (w : World) (v0 : Int) (v1 : Hdr) : (gBuild 94 #[(0, (.int .i64 v0)), (1, (v1.val))]).run Try.prog w = .ok (GOpening.val ⟨v0, v1, default⟩) w := by
  rw [GOpening.val_eq]
  refine run_gBuild_of uu94 zr94 pl94 ?_ w
  show Instr.fill _ (GOpening.enc default).toArray [(0, (.int .i64 v0)), (1, (v1.val))] = _
  rw [fs94_0, fs94_1]; rfl

/-! ### gavel/api.Tomb -/
structure GTomb where
  index : Int
  denies : Hdr
deriving DecidableEq
instance : Inhabited GTomb := ⟨⟨0, default⟩⟩
def GTomb.enc (x : GTomb) : List Value := [(.int .i64 x.index)] ++ ([(x.denies.val)])
theorem GTomb.enc_len (x : GTomb) : x.enc.length = 2 := by simp [GTomb.enc]
theorem GTomb.enc_one (x : GTomb) : ∀ u ∈ x.enc, u.oneCell' = true := by
  intro u hu
  simp only [GTomb.enc, List.mem_append, List.mem_singleton] at hu
  rcases hu with hu | hu
  · subst hu; rfl
  · subst hu; rfl
theorem GTomb.enc_inj (x y : GTomb) (h : x.enc = y.enc) : x = y := by
  obtain ⟨a0, a1⟩ := x
  obtain ⟨b0, b1⟩ := y
  simp only [GTomb.enc] at h
  obtain ⟨p0, q0⟩ := List.append_inj h (rfl)
  have e0 : a0 = b0 := by have := List.head_eq_of_cons_eq p0; injection this
  have e1 : a1 = b1 := Enc.inj (α := Hdr) _ _ q0
  rw [e0, e1]
instance : Enc GTomb where
  n := 2
  enc := GTomb.enc
  pos := by omega
  len := GTomb.enc_len
  one := GTomb.enc_one
  inj := GTomb.enc_inj
@[go_sem] theorem GTomb.n_eq : Enc.n GTomb = 2 := rfl
@[irreducible] def GTomb.val (x : GTomb) : Value := .agg x.enc.toArray
theorem GTomb.val_eq (x : GTomb) : GTomb.val x = .agg (Enc.enc x).toArray := by unfold GTomb.val; rfl
theorem GTomb.ext_all (x y : GTomb) : x = y ↔ x.index = y.index ∧ x.denies = y.denies := by
  constructor
  · intro h; cases h; simp
  · intro h; cases x; cases y; simp_all
theorem uu97 : Try.prog.underlying 97 = some (.struct (Try.prog.fieldsOf 97)) := by kernel_rfl
theorem st97 : Try.prog.stoodInHeld 97 = false := by kernel_rfl
theorem fl97 : fieldTO Try.prog 97 = [(3, 0), (95, 1)] := by kernel_rfl
theorem nb97 : noBlank Try.prog 97 = true := by kernel_rfl
@[go_sem ↓ high] theorem xl_GTomb (ρ : Operand → Value) (dst : Option Tmp) (x : Operand) (ty : TypeId) (pos : String) (after : Array Edge) (guard : Option (Nat × Bool)) : execOp ρ { dst, op := .load 97 x, type := ty, pos, after, guard } = (do pure (.value (← gLoad 97 (ρ x)))) := ex_load ..
@[go_sem ↓ high] theorem xs_GTomb (ρ : Operand → Value) (dst : Option Tmp) (x y : Operand) (ty : TypeId) (pos : String) (after : Array Edge) (guard : Option (Nat × Bool)) : execOp ρ { dst, op := .store 97 x y, type := ty, pos, after, guard } = (do gStore 97 (ρ x) (ρ y); pure .skip) := ex_store ..
@[go_sem ↓ high] theorem xb_GTomb (ρ : Operand → Value) (dst : Option Tmp) (x : Operand) (ty : TypeId) (pos : String) (after : Array Edge) (guard : Option (Nat × Bool)) : execOp ρ { dst, op := .box 97 x, type := ty, pos, after, guard } = (do pure (.value (← gBox 97 (ρ x)))) := ex_box ..
@[go_sem ↓ high] theorem xa_GTomb (ρ : Operand → Value) (dst : Option Tmp) (ty : TypeId) (pos : String) (after : Array Edge) (guard : Option (Nat × Bool)) : execOp ρ { dst, op := .alloc 97, type := ty, pos, after, guard } = (do pure (.value (← gAlloc 97))) := ex_alloc ..
theorem ag97 : aggT Try.prog 97 = true := by kernel_rfl
theorem sz97 : sizeT Try.prog 97 = 2 := by kernel_rfl
section
variable (w : World)
@[go_sem ↓ high] theorem ld_GTomb (a : Addr) : (gLoad 97 (.pointer (some a))).run Try.prog w = ofOpt ((get? GTomb w a).map GTomb.val) w (noLoad Try.prog 97 a w) := by
  unfold gLoad; exact run_loadAt_opt ag97 sz97 GTomb.val GTomb.val_eq
@[go_sem ↓ high] theorem st_GTomb (a : Addr) (x : GTomb) : (gStore 97 (.pointer (some a)) (GTomb.val x)).run Try.prog w = okU' ((get? GTomb w a).isSome && blkFree w a.block) (World.putCells w a (GTomb.enc x)) (noStore Try.prog 97 (.pointer (some a)) (GTomb.val x) w) := run_gStore_any sz97 GTomb.val GTomb.val_eq w a x
@[go_sem ↓ high] theorem bx_GTomb (x : GTomb) : (gBox 97 (GTomb.val x)).run Try.prog w = .ok (.pointer (some ⟨w.heap.size, 0, none⟩)) (w.alloc (.cells (GTomb.enc x).toArray 97)) := by
  rw [GTomb.val_eq]; exact run_gBox _ w
end
theorem lk97_0 (x : GTomb) : x.enc[0]? = some (.int .i64 x.index) := by
  simp [GTomb.enc, List.getElem?_append]
theorem pt97_0 (w : World) (x : GTomb) : (part 3 x.enc.toArray 0).run Try.prog w = .ok (.int .i64 x.index) w := run_part_one na3 us3 (lk97_0 x)
@[go_sem ↓ high] theorem fd97_0 (w : World) (x : GTomb) : (gField 97 (GTomb.val x) 0).run Try.prog w = .ok (.int .i64 x.index) w := by
  rw [GTomb.val_eq]
  exact run_gField w uu97 (by rw [fl97]; rfl) (pt97_0 w x)
theorem lk97_1 (x : GTomb) : x.enc[1]? = some (x.denies.val) := by
  simp [GTomb.enc, List.getElem?_append]
theorem pt97_1 (w : World) (x : GTomb) : (part 95 x.enc.toArray 1).run Try.prog w = .ok (x.denies.val) w := run_part_one na95 us95 (lk97_1 x)
@[go_sem ↓ high] theorem fd97_1 (w : World) (x : GTomb) : (gField 97 (GTomb.val x) 1).run Try.prog w = .ok (x.denies.val) w := by
  rw [GTomb.val_eq]
  exact run_gField w uu97 (by rw [fl97]; rfl) (pt97_1 w x)
@[go_sem ↓ high] theorem xf_GTomb (ρ : Operand → Value) (dst : Option Tmp) (x : Operand) (i : Nat) (ty : TypeId) (pos : String) (after : Array Edge) (guard : Option (Nat × Bool)) : execOp ρ { dst, op := .field 97 x i, type := ty, pos, after, guard } = (do pure (.value (← gField 97 (ρ x) i))) := ex_field ..
theorem zr97 : zeroT Try.prog 97 = some (.agg (GTomb.enc default).toArray) := by kernel_rfl
@[go_sem ↓ high] theorem al_GTomb (w : World) : (gAlloc 97).run Try.prog w = .ok (.pointer (some ⟨w.heap.size, 0, none⟩)) (w.alloc (.cells (GTomb.enc default).toArray 97)) := run_zero_alloc zr97 w
@[go_sem] theorem pc_GTomb (w : World) (n : Nat) (x z : GTomb) (hn : n = w.heap.size) : World.putCells (w.alloc (.cells (GTomb.enc z).toArray 97)) ⟨n, 0, none⟩ (GTomb.enc x) = w.alloc (.cells (GTomb.enc x).toArray 97) := putCells_top x z hn
theorem GTomb.at_index {w : World} {a : Addr} {x : GTomb} (h : get? GTomb w a = some x) : w.cell? (a.add 0) = some (.int .i64 x.index) := (get?_iff.1 h) _ _ (lk97_0 x)
theorem GTomb.at_denies {w : World} {a : Addr} {x : GTomb} (h : get? GTomb w a = some x) : w.cell? (a.add 1) = some (x.denies.val) := (get?_iff.1 h) _ _ (lk97_1 x)
@[go_sem] theorem nl97_0 (x : GTomb) : x.enc[0]? = some (.int .i64 x.index) := by
  have h := (GTomb.at_index (get?_new (w := (default : World)) 97 x))
  simp only [Addr.add_lit, Nat.zero_add, Nat.reduceAdd, World.cell?_alloc_new, List.getElem?_toArray] at h
  exact h
@[go_sem] theorem nl97_1 (x : GTomb) : x.enc[1]? = some (x.denies.val) := by
  have h := (GTomb.at_denies (get?_new (w := (default : World)) 97 x))
  simp only [Addr.add_lit, Nat.zero_add, Nat.reduceAdd, World.cell?_alloc_new, List.getElem?_toArray] at h
  exact h
@[go_sem] theorem nw97 (w : World) (n : Nat) (x : GTomb) (hn : n = w.heap.size) : get? GTomb (w.alloc (.cells (GTomb.enc x).toArray 97)) ⟨n, 0, none⟩ = some x := by
  subst hn; exact get?_new 97 x
theorem pl97 : ((Try.prog.fieldsOf 97).toList.mapM fun f => (Try.prog.info? f.type).map fun i => (f.offset, i.size)) = some [(0, 1), (1, 1)] := by kernel_rfl
theorem fs97_0 (x : GTomb) (v : Int) (rest : List (Nat × Value)) : Instr.fill (fun i => ([(0, 1), (1, 1)] : List (Nat × Nat))[i]?) x.enc.toArray ((0, (.int .i64 v)) :: rest) = Instr.fill (fun i => ([(0, 1), (1, 1)] : List (Nat × Nat))[i]?) ({ x with index := v } : GTomb).enc.toArray rest := by
  have h := fill_seg [(0, 1), (1, 1)] 0 0 1 rfl (([] : List Value)) ([(.int .i64 x.index)]) ([(x.denies.val)] ++ (([] : List Value))) ([(.int .i64 v)]) (.int .i64 v) rest (rfl) (by simp) (by simp) (by simp)
  have e1 : x.enc = (([] : List Value)) ++ ([(.int .i64 x.index)] ++ ([(x.denies.val)] ++ (([] : List Value)))) := by simp [GTomb.enc]
  have e2 : ({ x with index := v } : GTomb).enc = (([] : List Value)) ++ ([(.int .i64 v)] ++ ([(x.denies.val)] ++ (([] : List Value)))) := by simp [GTomb.enc]
  rw [e1, e2]; exact h
@[go_sem ↓ high] theorem xd_GTomb (ρ : Operand → Value) (dst : Option Tmp) (ps : Array (Nat × Operand)) (ty : TypeId) (pos : String) (after : Array Edge) (guard : Option (Nat × Bool)) : execOp ρ { dst, op := .build 97 ps, type := ty, pos, after, guard } = (do pure (.value (← gBuild 97 (ps.map fun (i, x) => (i, ρ x))))) := ex_build ..
@[go_sem ↓ high] theorem bd97_0 (w : World) (v0 : Int) : (gBuild 97 #[(0, (.int .i64 v0))]).run Try.prog w = .ok (GTomb.val ⟨v0, default⟩) w := by
  rw [GTomb.val_eq]
  refine run_gBuild_of uu97 zr97 pl97 ?_ w
  show Instr.fill _ (GTomb.enc default).toArray [(0, (.int .i64 v0))] = _
  rw [fs97_0]; rfl

/-! ### gavel/api.Commit -/
structure GCommit where
  name : GName
  hash : GHash
  len : Int
  sig : GSig
deriving DecidableEq
instance : Inhabited GCommit := ⟨⟨default, default, 0, default⟩⟩
def GCommit.enc (x : GCommit) : List Value := x.name.enc ++ (x.hash.enc ++ ([(.int .i64 x.len)] ++ (x.sig.enc)))
theorem GCommit.enc_len (x : GCommit) : x.enc.length = 37 := by simp [GCommit.enc, GHash.enc_len, GName.enc_len, GSig.enc_len]
theorem GCommit.enc_one (x : GCommit) : ∀ u ∈ x.enc, u.oneCell' = true := by
  intro u hu
  simp only [GCommit.enc, List.mem_append, List.mem_singleton] at hu
  rcases hu with hu | hu | hu | hu
  · exact Enc.one (α := GName) _ _ hu
  · exact Enc.one (α := GHash) _ _ hu
  · subst hu; rfl
  · exact Enc.one (α := GSig) _ _ hu
theorem GCommit.enc_inj (x y : GCommit) (h : x.enc = y.enc) : x = y := by
  obtain ⟨a0, a1, a2, a3⟩ := x
  obtain ⟨b0, b1, b2, b3⟩ := y
  simp only [GCommit.enc] at h
  obtain ⟨p0, q0⟩ := List.append_inj h (by simp [GName.enc_len])
  have e0 := Enc.inj (α := GName) _ _ p0
  obtain ⟨p1, q1⟩ := List.append_inj q0 (by simp [GHash.enc_len])
  have e1 := Enc.inj (α := GHash) _ _ p1
  obtain ⟨p2, q2⟩ := List.append_inj q1 (rfl)
  have e2 : a2 = b2 := by have := List.head_eq_of_cons_eq p2; injection this
  have e3 := Enc.inj (α := GSig) _ _ q2
  rw [e0, e1, e2, e3]
instance : Enc GCommit where
  n := 37
  enc := GCommit.enc
  pos := by omega
  len := GCommit.enc_len
  one := GCommit.enc_one
  inj := GCommit.enc_inj
@[go_sem] theorem GCommit.n_eq : Enc.n GCommit = 37 := rfl
@[irreducible] def GCommit.val (x : GCommit) : Value := .agg x.enc.toArray
theorem GCommit.val_eq (x : GCommit) : GCommit.val x = .agg (Enc.enc x).toArray := by unfold GCommit.val; rfl
theorem GCommit.ext_all (x y : GCommit) : x = y ↔ x.name = y.name ∧ x.hash = y.hash ∧ x.len = y.len ∧ x.sig = y.sig := by
  constructor
  · intro h; cases h; simp
  · intro h; cases x; cases y; simp_all
theorem uu84 : Try.prog.underlying 84 = some (.struct (Try.prog.fieldsOf 84)) := by kernel_rfl
theorem st84 : Try.prog.stoodInHeld 84 = false := by kernel_rfl
theorem fl84 : fieldTO Try.prog 84 = [(25, 0), (27, 2), (3, 34), (82, 35)] := by kernel_rfl
theorem nb84 : noBlank Try.prog 84 = true := by kernel_rfl
@[go_sem ↓ high] theorem xl_GCommit (ρ : Operand → Value) (dst : Option Tmp) (x : Operand) (ty : TypeId) (pos : String) (after : Array Edge) (guard : Option (Nat × Bool)) : execOp ρ { dst, op := .load 84 x, type := ty, pos, after, guard } = (do pure (.value (← gLoad 84 (ρ x)))) := ex_load ..
@[go_sem ↓ high] theorem xs_GCommit (ρ : Operand → Value) (dst : Option Tmp) (x y : Operand) (ty : TypeId) (pos : String) (after : Array Edge) (guard : Option (Nat × Bool)) : execOp ρ { dst, op := .store 84 x y, type := ty, pos, after, guard } = (do gStore 84 (ρ x) (ρ y); pure .skip) := ex_store ..
@[go_sem ↓ high] theorem xb_GCommit (ρ : Operand → Value) (dst : Option Tmp) (x : Operand) (ty : TypeId) (pos : String) (after : Array Edge) (guard : Option (Nat × Bool)) : execOp ρ { dst, op := .box 84 x, type := ty, pos, after, guard } = (do pure (.value (← gBox 84 (ρ x)))) := ex_box ..
@[go_sem ↓ high] theorem xa_GCommit (ρ : Operand → Value) (dst : Option Tmp) (ty : TypeId) (pos : String) (after : Array Edge) (guard : Option (Nat × Bool)) : execOp ρ { dst, op := .alloc 84, type := ty, pos, after, guard } = (do pure (.value (← gAlloc 84))) := ex_alloc ..
theorem ag84 : aggT Try.prog 84 = true := by kernel_rfl
theorem sz84 : sizeT Try.prog 84 = 37 := by kernel_rfl
section
variable (w : World)
@[go_sem ↓ high] theorem ld_GCommit (a : Addr) : (gLoad 84 (.pointer (some a))).run Try.prog w = ofOpt ((get? GCommit w a).map GCommit.val) w (noLoad Try.prog 84 a w) := by
  unfold gLoad; exact run_loadAt_opt ag84 sz84 GCommit.val GCommit.val_eq
@[go_sem ↓ high] theorem st_GCommit (a : Addr) (x : GCommit) : (gStore 84 (.pointer (some a)) (GCommit.val x)).run Try.prog w = okU' ((get? GCommit w a).isSome && blkFree w a.block) (World.putCells w a (GCommit.enc x)) (noStore Try.prog 84 (.pointer (some a)) (GCommit.val x) w) := run_gStore_any sz84 GCommit.val GCommit.val_eq w a x
@[go_sem ↓ high] theorem bx_GCommit (x : GCommit) : (gBox 84 (GCommit.val x)).run Try.prog w = .ok (.pointer (some ⟨w.heap.size, 0, none⟩)) (w.alloc (.cells (GCommit.enc x).toArray 84)) := by
  rw [GCommit.val_eq]; exact run_gBox _ w
end
theorem ds84_0 (x : GCommit) : (x.enc.drop 0).take 2 = x.name.enc := by
  unfold GCommit.enc
  simp only [List.drop_zero]
  rw [List.take_append_of_le_length (by simp [GName.enc_len])]; exact List.take_of_length_le (by simp [GName.enc_len])
theorem pt84_0 (w : World) (x : GCommit) : (part 25 x.enc.toArray 0).run Try.prog w = .ok (x.name.val) w := by
  have h := run_part_agg (P := Try.prog) (w := w) (cs := x.enc) (ds := x.name.enc) (off := 0) ag25 (by rw [GName.enc_len]; exact sz25) (by simp [GName.enc_len]) (by rw [GName.enc_len]; exact ds84_0 x)
  rw [h, GName.val_eq]; rfl
@[go_sem ↓ high] theorem fd84_0 (w : World) (x : GCommit) : (gField 84 (GCommit.val x) 0).run Try.prog w = .ok (x.name.val) w := by
  rw [GCommit.val_eq]
  exact run_gField w uu84 (by rw [fl84]; rfl) (pt84_0 w x)
theorem ds84_1 (x : GCommit) : (x.enc.drop 2).take 32 = x.hash.enc := by
  unfold GCommit.enc
  simp [List.drop_append, List.drop_eq_nil_of_le, GName.enc_len]
  rw [List.take_append_of_le_length (by simp [GHash.enc_len])]; exact List.take_of_length_le (by simp [GHash.enc_len])
theorem pt84_1 (w : World) (x : GCommit) : (part 27 x.enc.toArray 2).run Try.prog w = .ok (x.hash.val) w := by
  have h := run_part_agg (P := Try.prog) (w := w) (cs := x.enc) (ds := x.hash.enc) (off := 2) ag27 (by rw [GHash.enc_len]; exact sz27) (by simp [GHash.enc_len]) (by rw [GHash.enc_len]; exact ds84_1 x)
  rw [h, GHash.val_eq]; rfl
@[go_sem ↓ high] theorem fd84_1 (w : World) (x : GCommit) : (gField 84 (GCommit.val x) 1).run Try.prog w = .ok (x.hash.val) w := by
  rw [GCommit.val_eq]
  exact run_gField w uu84 (by rw [fl84]; rfl) (pt84_1 w x)
theorem lk84_2 (x : GCommit) : x.enc[34]? = some (.int .i64 x.len) := by
  simp [GCommit.enc, List.getElem?_append, GHash.enc_len, GName.enc_len]
theorem pt84_2 (w : World) (x : GCommit) : (part 3 x.enc.toArray 34).run Try.prog w = .ok (.int .i64 x.len) w := run_part_one na3 us3 (lk84_2 x)
@[go_sem ↓ high] theorem fd84_2 (w : World) (x : GCommit) : (gField 84 (GCommit.val x) 2).run Try.prog w = .ok (.int .i64 x.len) w := by
  rw [GCommit.val_eq]
  exact run_gField w uu84 (by rw [fl84]; rfl) (pt84_2 w x)
theorem ds84_3 (x : GCommit) : (x.enc.drop 35).take 2 = x.sig.enc := by
  unfold GCommit.enc
  simp [List.drop_append, List.drop_eq_nil_of_le, GHash.enc_len, GName.enc_len]
  exact List.take_of_length_le (by simp [GSig.enc_len])
theorem pt84_3 (w : World) (x : GCommit) : (part 82 x.enc.toArray 35).run Try.prog w = .ok (x.sig.val) w := by
  have h := run_part_agg (P := Try.prog) (w := w) (cs := x.enc) (ds := x.sig.enc) (off := 35) ag82 (by rw [GSig.enc_len]; exact sz82) (by simp [GSig.enc_len]) (by rw [GSig.enc_len]; exact ds84_3 x)
  rw [h, GSig.val_eq]; rfl
@[go_sem ↓ high] theorem fd84_3 (w : World) (x : GCommit) : (gField 84 (GCommit.val x) 3).run Try.prog w = .ok (x.sig.val) w := by
  rw [GCommit.val_eq]
  exact run_gField w uu84 (by rw [fl84]; rfl) (pt84_3 w x)
@[go_sem ↓ high] theorem xf_GCommit (ρ : Operand → Value) (dst : Option Tmp) (x : Operand) (i : Nat) (ty : TypeId) (pos : String) (after : Array Edge) (guard : Option (Nat × Bool)) : execOp ρ { dst, op := .field 84 x i, type := ty, pos, after, guard } = (do pure (.value (← gField 84 (ρ x) i))) := ex_field ..
theorem zr84 : zeroT Try.prog 84 = some (.agg (GCommit.enc default).toArray) := by kernel_rfl
@[go_sem ↓ high] theorem al_GCommit (w : World) : (gAlloc 84).run Try.prog w = .ok (.pointer (some ⟨w.heap.size, 0, none⟩)) (w.alloc (.cells (GCommit.enc default).toArray 84)) := run_zero_alloc zr84 w
@[go_sem] theorem pc_GCommit (w : World) (n : Nat) (x z : GCommit) (hn : n = w.heap.size) : World.putCells (w.alloc (.cells (GCommit.enc z).toArray 84)) ⟨n, 0, none⟩ (GCommit.enc x) = w.alloc (.cells (GCommit.enc x).toArray 84) := putCells_top x z hn
theorem GCommit.at_name {w : World} {a : Addr} {x : GCommit} (h : get? GCommit w a = some x) : get? GName w (a.add 0) = some x.name := by
  rw [get?_iff] at h ⊢
  refine h.sub 0 fun j v hv => ?_
  have hd := ds84_0 x
  have hj : j < 2 := by have := (List.getElem?_eq_some_iff.1 hv).1; rwa [Enc.len] at this
  show x.enc[0 + j]? = some v
  rw [← List.getElem?_drop, ← List.getElem?_take_of_lt hj, hd]; exact hv
theorem GCommit.at_hash {w : World} {a : Addr} {x : GCommit} (h : get? GCommit w a = some x) : get? GHash w (a.add 2) = some x.hash := by
  rw [get?_iff] at h ⊢
  refine h.sub 2 fun j v hv => ?_
  have hd := ds84_1 x
  have hj : j < 32 := by have := (List.getElem?_eq_some_iff.1 hv).1; rwa [Enc.len] at this
  show x.enc[2 + j]? = some v
  rw [← List.getElem?_drop, ← List.getElem?_take_of_lt hj, hd]; exact hv
theorem GCommit.at_len {w : World} {a : Addr} {x : GCommit} (h : get? GCommit w a = some x) : w.cell? (a.add 34) = some (.int .i64 x.len) := (get?_iff.1 h) _ _ (lk84_2 x)
theorem GCommit.at_sig {w : World} {a : Addr} {x : GCommit} (h : get? GCommit w a = some x) : get? GSig w (a.add 35) = some x.sig := by
  rw [get?_iff] at h ⊢
  refine h.sub 35 fun j v hv => ?_
  have hd := ds84_3 x
  have hj : j < 2 := by have := (List.getElem?_eq_some_iff.1 hv).1; rwa [Enc.len] at this
  show x.enc[35 + j]? = some v
  rw [← List.getElem?_drop, ← List.getElem?_take_of_lt hj, hd]; exact hv
@[go_sem] theorem nw84_0_GName (w : World) (n : Nat) (x : GCommit) (hn : n = w.heap.size) : get? GName (w.alloc (.cells (GCommit.enc x).toArray 84)) ⟨n, 0, none⟩ = some x.name := by
  subst hn
  have h := (GCommit.at_name (get?_new (w := w) 84 x))
  simp only [Addr.add_lit, Nat.zero_add, Nat.reduceAdd] at h
  exact h
@[go_sem] theorem nl84_0 (x : GCommit) : x.enc[0]? = some (.int .i64 x.name.client) := by
  have h := (GName.at_client (GCommit.at_name (get?_new (w := (default : World)) 84 x)))
  simp only [Addr.add_lit, Nat.zero_add, Nat.reduceAdd, World.cell?_alloc_new, List.getElem?_toArray] at h
  exact h
@[go_sem] theorem nl84_1 (x : GCommit) : x.enc[1]? = some (.int .i64 x.name.seq) := by
  have h := (GName.at_seq (GCommit.at_name (get?_new (w := (default : World)) 84 x)))
  simp only [Addr.add_lit, Nat.zero_add, Nat.reduceAdd, World.cell?_alloc_new, List.getElem?_toArray] at h
  exact h
@[go_sem] theorem nw84_2_GHash (w : World) (n : Nat) (x : GCommit) (hn : n = w.heap.size) : get? GHash (w.alloc (.cells (GCommit.enc x).toArray 84)) ⟨n, 2, none⟩ = some x.hash := by
  subst hn
  have h := (GCommit.at_hash (get?_new (w := w) 84 x))
  simp only [Addr.add_lit, Nat.zero_add, Nat.reduceAdd] at h
  exact h
@[go_sem] theorem nl84_34 (x : GCommit) : x.enc[34]? = some (.int .i64 x.len) := by
  have h := (GCommit.at_len (get?_new (w := (default : World)) 84 x))
  simp only [Addr.add_lit, Nat.zero_add, Nat.reduceAdd, World.cell?_alloc_new, List.getElem?_toArray] at h
  exact h
@[go_sem] theorem nw84_35_GSig (w : World) (n : Nat) (x : GCommit) (hn : n = w.heap.size) : get? GSig (w.alloc (.cells (GCommit.enc x).toArray 84)) ⟨n, 35, none⟩ = some x.sig := by
  subst hn
  have h := (GCommit.at_sig (get?_new (w := w) 84 x))
  simp only [Addr.add_lit, Nat.zero_add, Nat.reduceAdd] at h
  exact h
@[go_sem] theorem nl84_35 (x : GCommit) : x.enc[35]? = some (.int .i64 x.sig.by_) := by
  have h := (GSig.at_by_ (GCommit.at_sig (get?_new (w := (default : World)) 84 x)))
  simp only [Addr.add_lit, Nat.zero_add, Nat.reduceAdd, World.cell?_alloc_new, List.getElem?_toArray] at h
  exact h
@[go_sem] theorem nl84_36 (x : GCommit) : x.enc[36]? = some (.int .i64 x.sig.mark) := by
  have h := (GSig.at_mark (GCommit.at_sig (get?_new (w := (default : World)) 84 x)))
  simp only [Addr.add_lit, Nat.zero_add, Nat.reduceAdd, World.cell?_alloc_new, List.getElem?_toArray] at h
  exact h
@[go_sem] theorem nw84 (w : World) (n : Nat) (x : GCommit) (hn : n = w.heap.size) : get? GCommit (w.alloc (.cells (GCommit.enc x).toArray 84)) ⟨n, 0, none⟩ = some x := by
  subst hn; exact get?_new 84 x
theorem pl84 : ((Try.prog.fieldsOf 84).toList.mapM fun f => (Try.prog.info? f.type).map fun i => (f.offset, i.size)) = some [(0, 2), (2, 32), (34, 1), (35, 2)] := by kernel_rfl
theorem fs84_0 (x : GCommit) (v : GName) (rest : List (Nat × Value)) : Instr.fill (fun i => ([(0, 2), (2, 32), (34, 1), (35, 2)] : List (Nat × Nat))[i]?) x.enc.toArray ((0, (v.val)) :: rest) = Instr.fill (fun i => ([(0, 2), (2, 32), (34, 1), (35, 2)] : List (Nat × Nat))[i]?) ({ x with name := v } : GCommit).enc.toArray rest := by
  have h := fill_seg [(0, 2), (2, 32), (34, 1), (35, 2)] 0 0 2 rfl (([] : List Value)) (x.name.enc) (x.hash.enc ++ ([(.int .i64 x.len)] ++ (x.sig.enc ++ (([] : List Value))))) (v.enc) (v.val) rest (by rw [GName.val_eq]; rfl) (by simp [GHash.enc_len, GName.enc_len, GSig.enc_len]) (by simp [GHash.enc_len, GName.enc_len, GSig.enc_len]) (by simp [GHash.enc_len, GName.enc_len, GSig.enc_len])
  have e1 : x.enc = (([] : List Value)) ++ (x.name.enc ++ (x.hash.enc ++ ([(.int .i64 x.len)] ++ (x.sig.enc ++ (([] : List Value)))))) := by simp [GCommit.enc]
  have e2 : ({ x with name := v } : GCommit).enc = (([] : List Value)) ++ (v.enc ++ (x.hash.enc ++ ([(.int .i64 x.len)] ++ (x.sig.enc ++ (([] : List Value)))))) := by simp [GCommit.enc]
  rw [e1, e2]; exact h
@[go_sem ↓ high] theorem xd_GCommit (ρ : Operand → Value) (dst : Option Tmp) (ps : Array (Nat × Operand)) (ty : TypeId) (pos : String) (after : Array Edge) (guard : Option (Nat × Bool)) : execOp ρ { dst, op := .build 84 ps, type := ty, pos, after, guard } = (do pure (.value (← gBuild 84 (ps.map fun (i, x) => (i, ρ x))))) := ex_build ..
@[go_sem ↓ high] theorem bd84_0 (w : World) (v0 : GName) : (gBuild 84 #[(0, (v0.val))]).run Try.prog w = .ok (GCommit.val ⟨v0, default, 0, default⟩) w := by
  rw [GCommit.val_eq]
  refine run_gBuild_of uu84 zr84 pl84 ?_ w
  show Instr.fill _ (GCommit.enc default).toArray [(0, (v0.val))] = _
  rw [fs84_0]; rfl
theorem eq_GCommit (w : World) (d : Nat) (x y : GCommit) : (Op.equalIn (d + 3) 84 (GCommit.val x) (GCommit.val y)).run Try.prog w = .ok (decide (x = y)) w := by
  have q0 : (Op.equalIn (d + 2) 25 x.name.val y.name.val).run Try.prog w = .ok (decide (x.name = y.name)) w := eq_GName w (d + 0) _ _
  have q1 : (Op.equalIn (d + 2) 27 x.hash.val y.hash.val).run Try.prog w = .ok (decide (x.hash = y.hash)) w := eq_GHash w (d + 0) _ _
  have q2 : ∀ a b, (Op.equalIn (d + 2) 3 (.int .i64 a) (.int .i64 b)).run Try.prog w = .ok (decide (a = b)) w := fun a b => by rw [run_equalIn_int w (d + 1) 3 .i64 .i64 a b uk3]; congr 1
  have q3 : (Op.equalIn (d + 2) 82 x.sig.val y.sig.val).run Try.prog w = .ok (decide (x.sig = y.sig)) w := eq_GSig w (d + 0) _ _
  have h := run_equalIn_fields (d + 2) x.enc.toArray y.enc.toArray w uu84 st84 nb84
  rw [fl84] at h
  unfold GCommit.val
  refine h.trans ?_
  clear h
  simp only [eqFs, Sem.run_bind, pt84_0, pt84_1, pt84_2, pt84_3, q0, q1, q2, q3, Result.andThen_ok, Sem.run_ite, Sem.run_pure]
  have he : decide (x = y) = (decide (x.name = y.name) && (decide (x.hash = y.hash) && (decide (x.len = y.len) && (decide (x.sig = y.sig))))) := by
    rw [Bool.eq_iff_iff]; simp only [Bool.and_eq_true, decide_eq_true_eq]; exact GCommit.ext_all x y
  rw [he]
  generalize decide (x.name = y.name) = c0; generalize decide (x.hash = y.hash) = c1; generalize decide (x.len = y.len) = c2; generalize decide (x.sig = y.sig) = c3
  cases c0 <;> cases c1 <;> cases c2 <;> cases c3 <;> simp
@[go_sem ↓ high] theorem xq_GCommit (ρ : Operand → Value) (dst : Option Tmp) (x y : Operand) (ty yt : TypeId) (pos : String) (after : Array Edge) (guard : Option (Nat × Bool)) : execOp ρ { dst, op := .binOp .eql 84 x y yt, type := ty, pos, after, guard } = (do pure (.value (← gBin .eql 84 x y (ρ x) (ρ y)))) := ex_eql ..
@[go_sem ↓ high] theorem xn_GCommit (ρ : Operand → Value) (dst : Option Tmp) (x y : Operand) (ty yt : TypeId) (pos : String) (after : Array Edge) (guard : Option (Nat × Bool)) : execOp ρ { dst, op := .binOp .neq 84 x y yt, type := ty, pos, after, guard } = (do pure (.value (← gBin .neq 84 x y (ρ x) (ρ y)))) := ex_neq ..
theorem eg_GCommit : Try.prog.eqGuardType Try.prog.depth 84 = false := by kernel_rfl
@[go_sem ↓ high] theorem eql_GCommit (w : World) (ox oy : Operand) (x y : GCommit) : (gBin .eql 84 ox oy (GCommit.val x) (GCommit.val y)).run Try.prog w = .ok (.bool (decide (x = y))) w := by
  have h2 := eq_GCommit w 9997 x y
  rw [GCommit.val_eq, GCommit.val_eq] at h2 ⊢
  have h := run_eqGuard_agg (P := Try.prog) w .eql 84 ox oy (Enc.enc x).toArray (Enc.enc y).toArray eg_GCommit
  unfold gBin
  simp only [Sem.run_bind, h, Result.andThen_ok, run_eql_struct, h2]
@[go_sem ↓ high] theorem neq_GCommit (w : World) (ox oy : Operand) (x y : GCommit) : (gBin .neq 84 ox oy (GCommit.val x) (GCommit.val y)).run Try.prog w = .ok (.bool (!decide (x = y))) w := by
  have h2 := eq_GCommit w 9997 x y
  rw [GCommit.val_eq, GCommit.val_eq] at h2 ⊢
  have h := run_eqGuard_agg (P := Try.prog) w .neq 84 ox oy (Enc.enc x).toArray (Enc.enc y).toArray eg_GCommit
  unfold gBin
  simp only [Sem.run_bind, h, Result.andThen_ok, run_neq_struct, h2]

/-! ### gavel/api.Cert -/
structure GCert where
  commit : GCommit
  stamps : Hdr
deriving DecidableEq
instance : Inhabited GCert := ⟨⟨default, default⟩⟩
def GCert.enc (x : GCert) : List Value := x.commit.enc ++ ([(x.stamps.val)])
theorem GCert.enc_len (x : GCert) : x.enc.length = 38 := by simp [GCert.enc, GCommit.enc_len]
theorem GCert.enc_one (x : GCert) : ∀ u ∈ x.enc, u.oneCell' = true := by
  intro u hu
  simp only [GCert.enc, List.mem_append, List.mem_singleton] at hu
  rcases hu with hu | hu
  · exact Enc.one (α := GCommit) _ _ hu
  · subst hu; rfl
theorem GCert.enc_inj (x y : GCert) (h : x.enc = y.enc) : x = y := by
  obtain ⟨a0, a1⟩ := x
  obtain ⟨b0, b1⟩ := y
  simp only [GCert.enc] at h
  obtain ⟨p0, q0⟩ := List.append_inj h (by simp [GCommit.enc_len])
  have e0 := Enc.inj (α := GCommit) _ _ p0
  have e1 : a1 = b1 := Enc.inj (α := Hdr) _ _ q0
  rw [e0, e1]
instance : Enc GCert where
  n := 38
  enc := GCert.enc
  pos := by omega
  len := GCert.enc_len
  one := GCert.enc_one
  inj := GCert.enc_inj
@[go_sem] theorem GCert.n_eq : Enc.n GCert = 38 := rfl
@[irreducible] def GCert.val (x : GCert) : Value := .agg x.enc.toArray
theorem GCert.val_eq (x : GCert) : GCert.val x = .agg (Enc.enc x).toArray := by unfold GCert.val; rfl
theorem GCert.ext_all (x y : GCert) : x = y ↔ x.commit = y.commit ∧ x.stamps = y.stamps := by
  constructor
  · intro h; cases h; simp
  · intro h; cases x; cases y; simp_all
theorem uu89 : Try.prog.underlying 89 = some (.struct (Try.prog.fieldsOf 89)) := by kernel_rfl
theorem st89 : Try.prog.stoodInHeld 89 = false := by kernel_rfl
theorem fl89 : fieldTO Try.prog 89 = [(84, 0), (87, 37)] := by kernel_rfl
theorem nb89 : noBlank Try.prog 89 = true := by kernel_rfl
@[go_sem ↓ high] theorem xl_GCert (ρ : Operand → Value) (dst : Option Tmp) (x : Operand) (ty : TypeId) (pos : String) (after : Array Edge) (guard : Option (Nat × Bool)) : execOp ρ { dst, op := .load 89 x, type := ty, pos, after, guard } = (do pure (.value (← gLoad 89 (ρ x)))) := ex_load ..
@[go_sem ↓ high] theorem xs_GCert (ρ : Operand → Value) (dst : Option Tmp) (x y : Operand) (ty : TypeId) (pos : String) (after : Array Edge) (guard : Option (Nat × Bool)) : execOp ρ { dst, op := .store 89 x y, type := ty, pos, after, guard } = (do gStore 89 (ρ x) (ρ y); pure .skip) := ex_store ..
@[go_sem ↓ high] theorem xb_GCert (ρ : Operand → Value) (dst : Option Tmp) (x : Operand) (ty : TypeId) (pos : String) (after : Array Edge) (guard : Option (Nat × Bool)) : execOp ρ { dst, op := .box 89 x, type := ty, pos, after, guard } = (do pure (.value (← gBox 89 (ρ x)))) := ex_box ..
@[go_sem ↓ high] theorem xa_GCert (ρ : Operand → Value) (dst : Option Tmp) (ty : TypeId) (pos : String) (after : Array Edge) (guard : Option (Nat × Bool)) : execOp ρ { dst, op := .alloc 89, type := ty, pos, after, guard } = (do pure (.value (← gAlloc 89))) := ex_alloc ..
theorem ag89 : aggT Try.prog 89 = true := by kernel_rfl
theorem sz89 : sizeT Try.prog 89 = 38 := by kernel_rfl
section
variable (w : World)
@[go_sem ↓ high] theorem ld_GCert (a : Addr) : (gLoad 89 (.pointer (some a))).run Try.prog w = ofOpt ((get? GCert w a).map GCert.val) w (noLoad Try.prog 89 a w) := by
  unfold gLoad; exact run_loadAt_opt ag89 sz89 GCert.val GCert.val_eq
@[go_sem ↓ high] theorem st_GCert (a : Addr) (x : GCert) : (gStore 89 (.pointer (some a)) (GCert.val x)).run Try.prog w = okU' ((get? GCert w a).isSome && blkFree w a.block) (World.putCells w a (GCert.enc x)) (noStore Try.prog 89 (.pointer (some a)) (GCert.val x) w) := run_gStore_any sz89 GCert.val GCert.val_eq w a x
@[go_sem ↓ high] theorem bx_GCert (x : GCert) : (gBox 89 (GCert.val x)).run Try.prog w = .ok (.pointer (some ⟨w.heap.size, 0, none⟩)) (w.alloc (.cells (GCert.enc x).toArray 89)) := by
  rw [GCert.val_eq]; exact run_gBox _ w
end
theorem ds89_0 (x : GCert) : (x.enc.drop 0).take 37 = x.commit.enc := by
  unfold GCert.enc
  simp only [List.drop_zero]
  rw [List.take_append_of_le_length (by simp [GCommit.enc_len])]; exact List.take_of_length_le (by simp [GCommit.enc_len])
theorem pt89_0 (w : World) (x : GCert) : (part 84 x.enc.toArray 0).run Try.prog w = .ok (x.commit.val) w := by
  have h := run_part_agg (P := Try.prog) (w := w) (cs := x.enc) (ds := x.commit.enc) (off := 0) ag84 (by rw [GCommit.enc_len]; exact sz84) (by simp [GCommit.enc_len]) (by rw [GCommit.enc_len]; exact ds89_0 x)
  rw [h, GCommit.val_eq]; rfl
@[go_sem ↓ high] theorem fd89_0 (w : World) (x : GCert) : (gField 89 (GCert.val x) 0).run Try.prog w = .ok (x.commit.val) w := by
  rw [GCert.val_eq]
  exact run_gField w uu89 (by rw [fl89]; rfl) (pt89_0 w x)
theorem lk89_1 (x : GCert) : x.enc[37]? = some (x.stamps.val) := by
  simp [GCert.enc, List.getElem?_append, GCommit.enc_len]
theorem pt89_1 (w : World) (x : GCert) : (part 87 x.enc.toArray 37).run Try.prog w = .ok (x.stamps.val) w := run_part_one na87 us87 (lk89_1 x)
@[go_sem ↓ high] theorem fd89_1 (w : World) (x : GCert) : (gField 89 (GCert.val x) 1).run Try.prog w = .ok (x.stamps.val) w := by
  rw [GCert.val_eq]
  exact run_gField w uu89 (by rw [fl89]; rfl) (pt89_1 w x)
@[go_sem ↓ high] theorem xf_GCert (ρ : Operand → Value) (dst : Option Tmp) (x : Operand) (i : Nat) (ty : TypeId) (pos : String) (after : Array Edge) (guard : Option (Nat × Bool)) : execOp ρ { dst, op := .field 89 x i, type := ty, pos, after, guard } = (do pure (.value (← gField 89 (ρ x) i))) := ex_field ..
theorem zr89 : zeroT Try.prog 89 = some (.agg (GCert.enc default).toArray) := by kernel_rfl
@[go_sem ↓ high] theorem al_GCert (w : World) : (gAlloc 89).run Try.prog w = .ok (.pointer (some ⟨w.heap.size, 0, none⟩)) (w.alloc (.cells (GCert.enc default).toArray 89)) := run_zero_alloc zr89 w
@[go_sem] theorem pc_GCert (w : World) (n : Nat) (x z : GCert) (hn : n = w.heap.size) : World.putCells (w.alloc (.cells (GCert.enc z).toArray 89)) ⟨n, 0, none⟩ (GCert.enc x) = w.alloc (.cells (GCert.enc x).toArray 89) := putCells_top x z hn
theorem GCert.at_commit {w : World} {a : Addr} {x : GCert} (h : get? GCert w a = some x) : get? GCommit w (a.add 0) = some x.commit := by
  rw [get?_iff] at h ⊢
  refine h.sub 0 fun j v hv => ?_
  have hd := ds89_0 x
  have hj : j < 37 := by have := (List.getElem?_eq_some_iff.1 hv).1; rwa [Enc.len] at this
  show x.enc[0 + j]? = some v
  rw [← List.getElem?_drop, ← List.getElem?_take_of_lt hj, hd]; exact hv
theorem GCert.at_stamps {w : World} {a : Addr} {x : GCert} (h : get? GCert w a = some x) : w.cell? (a.add 37) = some (x.stamps.val) := (get?_iff.1 h) _ _ (lk89_1 x)
@[go_sem] theorem nw89_0_GCommit (w : World) (n : Nat) (x : GCert) (hn : n = w.heap.size) : get? GCommit (w.alloc (.cells (GCert.enc x).toArray 89)) ⟨n, 0, none⟩ = some x.commit := by
  subst hn
  have h := (GCert.at_commit (get?_new (w := w) 89 x))
  simp only [Addr.add_lit, Nat.zero_add, Nat.reduceAdd] at h
  exact h
@[go_sem] theorem nw89_0_GName (w : World) (n : Nat) (x : GCert) (hn : n = w.heap.size) : get? GName (w.alloc (.cells (GCert.enc x).toArray 89)) ⟨n, 0, none⟩ = some x.commit.name := by
  subst hn
  have h := (GCommit.at_name (GCert.at_commit (get?_new (w := w) 89 x)))
  simp only [Addr.add_lit, Nat.zero_add, Nat.reduceAdd] at h
  exact h
@[go_sem] theorem nl89_0 (x : GCert) : x.enc[0]? = some (.int .i64 x.commit.name.client) := by
  have h := (GName.at_client (GCommit.at_name (GCert.at_commit (get?_new (w := (default : World)) 89 x))))
  simp only [Addr.add_lit, Nat.zero_add, Nat.reduceAdd, World.cell?_alloc_new, List.getElem?_toArray] at h
  exact h
@[go_sem] theorem nl89_1 (x : GCert) : x.enc[1]? = some (.int .i64 x.commit.name.seq) := by
  have h := (GName.at_seq (GCommit.at_name (GCert.at_commit (get?_new (w := (default : World)) 89 x))))
  simp only [Addr.add_lit, Nat.zero_add, Nat.reduceAdd, World.cell?_alloc_new, List.getElem?_toArray] at h
  exact h
@[go_sem] theorem nw89_2_GHash (w : World) (n : Nat) (x : GCert) (hn : n = w.heap.size) : get? GHash (w.alloc (.cells (GCert.enc x).toArray 89)) ⟨n, 2, none⟩ = some x.commit.hash := by
  subst hn
  have h := (GCommit.at_hash (GCert.at_commit (get?_new (w := w) 89 x)))
  simp only [Addr.add_lit, Nat.zero_add, Nat.reduceAdd] at h
  exact h
@[go_sem] theorem nl89_34 (x : GCert) : x.enc[34]? = some (.int .i64 x.commit.len) := by
  have h := (GCommit.at_len (GCert.at_commit (get?_new (w := (default : World)) 89 x)))
  simp only [Addr.add_lit, Nat.zero_add, Nat.reduceAdd, World.cell?_alloc_new, List.getElem?_toArray] at h
  exact h
@[go_sem] theorem nw89_35_GSig (w : World) (n : Nat) (x : GCert) (hn : n = w.heap.size) : get? GSig (w.alloc (.cells (GCert.enc x).toArray 89)) ⟨n, 35, none⟩ = some x.commit.sig := by
  subst hn
  have h := (GCommit.at_sig (GCert.at_commit (get?_new (w := w) 89 x)))
  simp only [Addr.add_lit, Nat.zero_add, Nat.reduceAdd] at h
  exact h
@[go_sem] theorem nl89_35 (x : GCert) : x.enc[35]? = some (.int .i64 x.commit.sig.by_) := by
  have h := (GSig.at_by_ (GCommit.at_sig (GCert.at_commit (get?_new (w := (default : World)) 89 x))))
  simp only [Addr.add_lit, Nat.zero_add, Nat.reduceAdd, World.cell?_alloc_new, List.getElem?_toArray] at h
  exact h
@[go_sem] theorem nl89_36 (x : GCert) : x.enc[36]? = some (.int .i64 x.commit.sig.mark) := by
  have h := (GSig.at_mark (GCommit.at_sig (GCert.at_commit (get?_new (w := (default : World)) 89 x))))
  simp only [Addr.add_lit, Nat.zero_add, Nat.reduceAdd, World.cell?_alloc_new, List.getElem?_toArray] at h
  exact h
@[go_sem] theorem nl89_37 (x : GCert) : x.enc[37]? = some (x.stamps.val) := by
  have h := (GCert.at_stamps (get?_new (w := (default : World)) 89 x))
  simp only [Addr.add_lit, Nat.zero_add, Nat.reduceAdd, World.cell?_alloc_new, List.getElem?_toArray] at h
  exact h
@[go_sem] theorem nw89 (w : World) (n : Nat) (x : GCert) (hn : n = w.heap.size) : get? GCert (w.alloc (.cells (GCert.enc x).toArray 89)) ⟨n, 0, none⟩ = some x := by
  subst hn; exact get?_new 89 x
theorem pl89 : ((Try.prog.fieldsOf 89).toList.mapM fun f => (Try.prog.info? f.type).map fun i => (f.offset, i.size)) = some [(0, 37), (37, 1)] := by kernel_rfl
theorem fs89_0 (x : GCert) (v : GCommit) (rest : List (Nat × Value)) : Instr.fill (fun i => ([(0, 37), (37, 1)] : List (Nat × Nat))[i]?) x.enc.toArray ((0, (v.val)) :: rest) = Instr.fill (fun i => ([(0, 37), (37, 1)] : List (Nat × Nat))[i]?) ({ x with commit := v } : GCert).enc.toArray rest := by
  have h := fill_seg [(0, 37), (37, 1)] 0 0 37 rfl (([] : List Value)) (x.commit.enc) ([(x.stamps.val)] ++ (([] : List Value))) (v.enc) (v.val) rest (by rw [GCommit.val_eq]; rfl) (by simp [GCommit.enc_len]) (by simp [GCommit.enc_len]) (by simp [GCommit.enc_len])
  have e1 : x.enc = (([] : List Value)) ++ (x.commit.enc ++ ([(x.stamps.val)] ++ (([] : List Value)))) := by simp [GCert.enc]
  have e2 : ({ x with commit := v } : GCert).enc = (([] : List Value)) ++ (v.enc ++ ([(x.stamps.val)] ++ (([] : List Value)))) := by simp [GCert.enc]
  rw [e1, e2]; exact h
theorem fs89_1 (x : GCert) (v : Hdr) (rest : List (Nat × Value)) : Instr.fill (fun i => ([(0, 37), (37, 1)] : List (Nat × Nat))[i]?) x.enc.toArray ((1, (v.val)) :: rest) = Instr.fill (fun i => ([(0, 37), (37, 1)] : List (Nat × Nat))[i]?) ({ x with stamps := v } : GCert).enc.toArray rest := by
  have h := fill_seg [(0, 37), (37, 1)] 1 37 1 rfl (([] : List Value) ++ (x.commit.enc)) ([(x.stamps.val)]) (([] : List Value)) ([(v.val)]) (v.val) rest (rfl) (by simp [GCommit.enc_len]) (by simp [GCommit.enc_len]) (by simp [GCommit.enc_len])
  have e1 : x.enc = (([] : List Value) ++ (x.commit.enc)) ++ ([(x.stamps.val)] ++ (([] : List Value))) := by simp [GCert.enc]
  have e2 : ({ x with stamps := v } : GCert).enc = (([] : List Value) ++ (x.commit.enc)) ++ ([(v.val)] ++ (([] : List Value))) := by simp [GCert.enc]
  rw [e1, e2]; exact h
@[go_sem ↓ high] theorem xd_GCert (ρ : Operand → Value) (dst : Option Tmp) (ps : Array (Nat × Operand)) (ty : TypeId) (pos : String) (after : Array Edge) (guard : Option (Nat × Bool)) : execOp ρ { dst, op := .build 89 ps, type := ty, pos, after, guard } = (do pure (.value (← gBuild 89 (ps.map fun (i, x) => (i, ρ x))))) := ex_build ..
@[go_sem ↓ high] theorem bd89_0 (w : World) (v0 : GCommit) (v1 : Hdr) : (gBuild 89 #[(0, (v0.val)), (1, (v1.val))]).run Try.prog w = .ok (GCert.val ⟨v0, v1⟩) w := by
  rw [GCert.val_eq]
  refine run_gBuild_of uu89 zr89 pl89 ?_ w
  show Instr.fill _ (GCert.enc default).toArray [(0, (v0.val)), (1, (v1.val))] = _
  rw [fs89_0, fs89_1]; rfl

/-! ### gavel/api.Stamp -/
structure GStamp where
  replica : Int
  name : GName
  hash : GHash
  time : Int
  sig : GSig
deriving DecidableEq
instance : Inhabited GStamp := ⟨⟨0, default, default, 0, default⟩⟩
def GStamp.enc (x : GStamp) : List Value := [(.int .i64 x.replica)] ++ (x.name.enc ++ (x.hash.enc ++ ([(.int .u64 x.time)] ++ (x.sig.enc))))
theorem GStamp.enc_len (x : GStamp) : x.enc.length = 38 := by simp [GStamp.enc, GHash.enc_len, GName.enc_len, GSig.enc_len]
theorem GStamp.enc_one (x : GStamp) : ∀ u ∈ x.enc, u.oneCell' = true := by
  intro u hu
  simp only [GStamp.enc, List.mem_append, List.mem_singleton] at hu
  rcases hu with hu | hu | hu | hu | hu
  · subst hu; rfl
  · exact Enc.one (α := GName) _ _ hu
  · exact Enc.one (α := GHash) _ _ hu
  · subst hu; rfl
  · exact Enc.one (α := GSig) _ _ hu
theorem GStamp.enc_inj (x y : GStamp) (h : x.enc = y.enc) : x = y := by
  obtain ⟨a0, a1, a2, a3, a4⟩ := x
  obtain ⟨b0, b1, b2, b3, b4⟩ := y
  simp only [GStamp.enc] at h
  obtain ⟨p0, q0⟩ := List.append_inj h (rfl)
  have e0 : a0 = b0 := by have := List.head_eq_of_cons_eq p0; injection this
  obtain ⟨p1, q1⟩ := List.append_inj q0 (by simp [GName.enc_len])
  have e1 := Enc.inj (α := GName) _ _ p1
  obtain ⟨p2, q2⟩ := List.append_inj q1 (by simp [GHash.enc_len])
  have e2 := Enc.inj (α := GHash) _ _ p2
  obtain ⟨p3, q3⟩ := List.append_inj q2 (rfl)
  have e3 : a3 = b3 := by have := List.head_eq_of_cons_eq p3; injection this
  have e4 := Enc.inj (α := GSig) _ _ q3
  rw [e0, e1, e2, e3, e4]
instance : Enc GStamp where
  n := 38
  enc := GStamp.enc
  pos := by omega
  len := GStamp.enc_len
  one := GStamp.enc_one
  inj := GStamp.enc_inj
@[go_sem] theorem GStamp.n_eq : Enc.n GStamp = 38 := rfl
@[irreducible] def GStamp.val (x : GStamp) : Value := .agg x.enc.toArray
theorem GStamp.val_eq (x : GStamp) : GStamp.val x = .agg (Enc.enc x).toArray := by unfold GStamp.val; rfl
theorem GStamp.ext_all (x y : GStamp) : x = y ↔ x.replica = y.replica ∧ x.name = y.name ∧ x.hash = y.hash ∧ x.time = y.time ∧ x.sig = y.sig := by
  constructor
  · intro h; cases h; simp
  · intro h; cases x; cases y; simp_all
theorem uu86 : Try.prog.underlying 86 = some (.struct (Try.prog.fieldsOf 86)) := by kernel_rfl
theorem st86 : Try.prog.stoodInHeld 86 = false := by kernel_rfl
theorem fl86 : fieldTO Try.prog 86 = [(3, 0), (25, 1), (27, 3), (28, 35), (82, 36)] := by kernel_rfl
theorem nb86 : noBlank Try.prog 86 = true := by kernel_rfl
@[go_sem ↓ high] theorem xl_GStamp (ρ : Operand → Value) (dst : Option Tmp) (x : Operand) (ty : TypeId) (pos : String) (after : Array Edge) (guard : Option (Nat × Bool)) : execOp ρ { dst, op := .load 86 x, type := ty, pos, after, guard } = (do pure (.value (← gLoad 86 (ρ x)))) := ex_load ..
@[go_sem ↓ high] theorem xs_GStamp (ρ : Operand → Value) (dst : Option Tmp) (x y : Operand) (ty : TypeId) (pos : String) (after : Array Edge) (guard : Option (Nat × Bool)) : execOp ρ { dst, op := .store 86 x y, type := ty, pos, after, guard } = (do gStore 86 (ρ x) (ρ y); pure .skip) := ex_store ..
@[go_sem ↓ high] theorem xb_GStamp (ρ : Operand → Value) (dst : Option Tmp) (x : Operand) (ty : TypeId) (pos : String) (after : Array Edge) (guard : Option (Nat × Bool)) : execOp ρ { dst, op := .box 86 x, type := ty, pos, after, guard } = (do pure (.value (← gBox 86 (ρ x)))) := ex_box ..
@[go_sem ↓ high] theorem xa_GStamp (ρ : Operand → Value) (dst : Option Tmp) (ty : TypeId) (pos : String) (after : Array Edge) (guard : Option (Nat × Bool)) : execOp ρ { dst, op := .alloc 86, type := ty, pos, after, guard } = (do pure (.value (← gAlloc 86))) := ex_alloc ..
theorem ag86 : aggT Try.prog 86 = true := by kernel_rfl
theorem sz86 : sizeT Try.prog 86 = 38 := by kernel_rfl
section
variable (w : World)
@[go_sem ↓ high] theorem ld_GStamp (a : Addr) : (gLoad 86 (.pointer (some a))).run Try.prog w = ofOpt ((get? GStamp w a).map GStamp.val) w (noLoad Try.prog 86 a w) := by
  unfold gLoad; exact run_loadAt_opt ag86 sz86 GStamp.val GStamp.val_eq
@[go_sem ↓ high] theorem st_GStamp (a : Addr) (x : GStamp) : (gStore 86 (.pointer (some a)) (GStamp.val x)).run Try.prog w = okU' ((get? GStamp w a).isSome && blkFree w a.block) (World.putCells w a (GStamp.enc x)) (noStore Try.prog 86 (.pointer (some a)) (GStamp.val x) w) := run_gStore_any sz86 GStamp.val GStamp.val_eq w a x
@[go_sem ↓ high] theorem bx_GStamp (x : GStamp) : (gBox 86 (GStamp.val x)).run Try.prog w = .ok (.pointer (some ⟨w.heap.size, 0, none⟩)) (w.alloc (.cells (GStamp.enc x).toArray 86)) := by
  rw [GStamp.val_eq]; exact run_gBox _ w
end
theorem lk86_0 (x : GStamp) : x.enc[0]? = some (.int .i64 x.replica) := by
  simp [GStamp.enc, List.getElem?_append]
theorem pt86_0 (w : World) (x : GStamp) : (part 3 x.enc.toArray 0).run Try.prog w = .ok (.int .i64 x.replica) w := run_part_one na3 us3 (lk86_0 x)
@[go_sem ↓ high] theorem fd86_0 (w : World) (x : GStamp) : (gField 86 (GStamp.val x) 0).run Try.prog w = .ok (.int .i64 x.replica) w := by
  rw [GStamp.val_eq]
  exact run_gField w uu86 (by rw [fl86]; rfl) (pt86_0 w x)
theorem ds86_1 (x : GStamp) : (x.enc.drop 1).take 2 = x.name.enc := by
  unfold GStamp.enc
  simp [List.drop_append, List.drop_eq_nil_of_le]
  rw [List.take_append_of_le_length (by simp [GName.enc_len])]; exact List.take_of_length_le (by simp [GName.enc_len])
theorem pt86_1 (w : World) (x : GStamp) : (part 25 x.enc.toArray 1).run Try.prog w = .ok (x.name.val) w := by
  have h := run_part_agg (P := Try.prog) (w := w) (cs := x.enc) (ds := x.name.enc) (off := 1) ag25 (by rw [GName.enc_len]; exact sz25) (by simp [GName.enc_len]) (by rw [GName.enc_len]; exact ds86_1 x)
  rw [h, GName.val_eq]; rfl
@[go_sem ↓ high] theorem fd86_1 (w : World) (x : GStamp) : (gField 86 (GStamp.val x) 1).run Try.prog w = .ok (x.name.val) w := by
  rw [GStamp.val_eq]
  exact run_gField w uu86 (by rw [fl86]; rfl) (pt86_1 w x)
theorem ds86_2 (x : GStamp) : (x.enc.drop 3).take 32 = x.hash.enc := by
  unfold GStamp.enc
  simp [List.drop_append, List.drop_eq_nil_of_le, GName.enc_len]
  rw [List.take_append_of_le_length (by simp [GHash.enc_len])]; exact List.take_of_length_le (by simp [GHash.enc_len])
theorem pt86_2 (w : World) (x : GStamp) : (part 27 x.enc.toArray 3).run Try.prog w = .ok (x.hash.val) w := by
  have h := run_part_agg (P := Try.prog) (w := w) (cs := x.enc) (ds := x.hash.enc) (off := 3) ag27 (by rw [GHash.enc_len]; exact sz27) (by simp [GHash.enc_len]) (by rw [GHash.enc_len]; exact ds86_2 x)
  rw [h, GHash.val_eq]; rfl
@[go_sem ↓ high] theorem fd86_2 (w : World) (x : GStamp) : (gField 86 (GStamp.val x) 2).run Try.prog w = .ok (x.hash.val) w := by
  rw [GStamp.val_eq]
  exact run_gField w uu86 (by rw [fl86]; rfl) (pt86_2 w x)
theorem lk86_3 (x : GStamp) : x.enc[35]? = some (.int .u64 x.time) := by
  simp [GStamp.enc, List.getElem?_append, GHash.enc_len, GName.enc_len]
theorem pt86_3 (w : World) (x : GStamp) : (part 28 x.enc.toArray 35).run Try.prog w = .ok (.int .u64 x.time) w := run_part_one na28 us28 (lk86_3 x)
@[go_sem ↓ high] theorem fd86_3 (w : World) (x : GStamp) : (gField 86 (GStamp.val x) 3).run Try.prog w = .ok (.int .u64 x.time) w := by
  rw [GStamp.val_eq]
  exact run_gField w uu86 (by rw [fl86]; rfl) (pt86_3 w x)
theorem ds86_4 (x : GStamp) : (x.enc.drop 36).take 2 = x.sig.enc := by
  unfold GStamp.enc
  simp [List.drop_append, List.drop_eq_nil_of_le, GHash.enc_len, GName.enc_len]
  exact List.take_of_length_le (by simp [GSig.enc_len])
theorem pt86_4 (w : World) (x : GStamp) : (part 82 x.enc.toArray 36).run Try.prog w = .ok (x.sig.val) w := by
  have h := run_part_agg (P := Try.prog) (w := w) (cs := x.enc) (ds := x.sig.enc) (off := 36) ag82 (by rw [GSig.enc_len]; exact sz82) (by simp [GSig.enc_len]) (by rw [GSig.enc_len]; exact ds86_4 x)
  rw [h, GSig.val_eq]; rfl
@[go_sem ↓ high] theorem fd86_4 (w : World) (x : GStamp) : (gField 86 (GStamp.val x) 4).run Try.prog w = .ok (x.sig.val) w := by
  rw [GStamp.val_eq]
  exact run_gField w uu86 (by rw [fl86]; rfl) (pt86_4 w x)
@[go_sem ↓ high] theorem xf_GStamp (ρ : Operand → Value) (dst : Option Tmp) (x : Operand) (i : Nat) (ty : TypeId) (pos : String) (after : Array Edge) (guard : Option (Nat × Bool)) : execOp ρ { dst, op := .field 86 x i, type := ty, pos, after, guard } = (do pure (.value (← gField 86 (ρ x) i))) := ex_field ..
theorem zr86 : zeroT Try.prog 86 = some (.agg (GStamp.enc default).toArray) := by kernel_rfl
@[go_sem ↓ high] theorem al_GStamp (w : World) : (gAlloc 86).run Try.prog w = .ok (.pointer (some ⟨w.heap.size, 0, none⟩)) (w.alloc (.cells (GStamp.enc default).toArray 86)) := run_zero_alloc zr86 w
@[go_sem] theorem pc_GStamp (w : World) (n : Nat) (x z : GStamp) (hn : n = w.heap.size) : World.putCells (w.alloc (.cells (GStamp.enc z).toArray 86)) ⟨n, 0, none⟩ (GStamp.enc x) = w.alloc (.cells (GStamp.enc x).toArray 86) := putCells_top x z hn
theorem GStamp.at_replica {w : World} {a : Addr} {x : GStamp} (h : get? GStamp w a = some x) : w.cell? (a.add 0) = some (.int .i64 x.replica) := (get?_iff.1 h) _ _ (lk86_0 x)
theorem GStamp.at_name {w : World} {a : Addr} {x : GStamp} (h : get? GStamp w a = some x) : get? GName w (a.add 1) = some x.name := by
  rw [get?_iff] at h ⊢
  refine h.sub 1 fun j v hv => ?_
  have hd := ds86_1 x
  have hj : j < 2 := by have := (List.getElem?_eq_some_iff.1 hv).1; rwa [Enc.len] at this
  show x.enc[1 + j]? = some v
  rw [← List.getElem?_drop, ← List.getElem?_take_of_lt hj, hd]; exact hv
theorem GStamp.at_hash {w : World} {a : Addr} {x : GStamp} (h : get? GStamp w a = some x) : get? GHash w (a.add 3) = some x.hash := by
  rw [get?_iff] at h ⊢
  refine h.sub 3 fun j v hv => ?_
  have hd := ds86_2 x
  have hj : j < 32 := by have := (List.getElem?_eq_some_iff.1 hv).1; rwa [Enc.len] at this
  show x.enc[3 + j]? = some v
  rw [← List.getElem?_drop, ← List.getElem?_take_of_lt hj, hd]; exact hv
theorem GStamp.at_time {w : World} {a : Addr} {x : GStamp} (h : get? GStamp w a = some x) : w.cell? (a.add 35) = some (.int .u64 x.time) := (get?_iff.1 h) _ _ (lk86_3 x)
theorem GStamp.at_sig {w : World} {a : Addr} {x : GStamp} (h : get? GStamp w a = some x) : get? GSig w (a.add 36) = some x.sig := by
  rw [get?_iff] at h ⊢
  refine h.sub 36 fun j v hv => ?_
  have hd := ds86_4 x
  have hj : j < 2 := by have := (List.getElem?_eq_some_iff.1 hv).1; rwa [Enc.len] at this
  show x.enc[36 + j]? = some v
  rw [← List.getElem?_drop, ← List.getElem?_take_of_lt hj, hd]; exact hv
@[go_sem] theorem nl86_0 (x : GStamp) : x.enc[0]? = some (.int .i64 x.replica) := by
  have h := (GStamp.at_replica (get?_new (w := (default : World)) 86 x))
  simp only [Addr.add_lit, Nat.zero_add, Nat.reduceAdd, World.cell?_alloc_new, List.getElem?_toArray] at h
  exact h
@[go_sem] theorem nw86_1_GName (w : World) (n : Nat) (x : GStamp) (hn : n = w.heap.size) : get? GName (w.alloc (.cells (GStamp.enc x).toArray 86)) ⟨n, 1, none⟩ = some x.name := by
  subst hn
  have h := (GStamp.at_name (get?_new (w := w) 86 x))
  simp only [Addr.add_lit, Nat.zero_add, Nat.reduceAdd] at h
  exact h
@[go_sem] theorem nl86_1 (x : GStamp) : x.enc[1]? = some (.int .i64 x.name.client) := by
  have h := (GName.at_client (GStamp.at_name (get?_new (w := (default : World)) 86 x)))
  simp only [Addr.add_lit, Nat.zero_add, Nat.reduceAdd, World.cell?_alloc_new, List.getElem?_toArray] at h
  exact h
@[go_sem] theorem nl86_2 (x : GStamp) : x.enc[2]? = some (.int .i64 x.name.seq) := by
  have h := (GName.at_seq (GStamp.at_name (get?_new (w := (default : World)) 86 x)))
  simp only [Addr.add_lit, Nat.zero_add, Nat.reduceAdd, World.cell?_alloc_new, List.getElem?_toArray] at h
  exact h
@[go_sem] theorem nw86_3_GHash (w : World) (n : Nat) (x : GStamp) (hn : n = w.heap.size) : get? GHash (w.alloc (.cells (GStamp.enc x).toArray 86)) ⟨n, 3, none⟩ = some x.hash := by
  subst hn
  have h := (GStamp.at_hash (get?_new (w := w) 86 x))
  simp only [Addr.add_lit, Nat.zero_add, Nat.reduceAdd] at h
  exact h
@[go_sem] theorem nl86_35 (x : GStamp) : x.enc[35]? = some (.int .u64 x.time) := by
  have h := (GStamp.at_time (get?_new (w := (default : World)) 86 x))
  simp only [Addr.add_lit, Nat.zero_add, Nat.reduceAdd, World.cell?_alloc_new, List.getElem?_toArray] at h
  exact h
@[go_sem] theorem nw86_36_GSig (w : World) (n : Nat) (x : GStamp) (hn : n = w.heap.size) : get? GSig (w.alloc (.cells (GStamp.enc x).toArray 86)) ⟨n, 36, none⟩ = some x.sig := by
  subst hn
  have h := (GStamp.at_sig (get?_new (w := w) 86 x))
  simp only [Addr.add_lit, Nat.zero_add, Nat.reduceAdd] at h
  exact h
@[go_sem] theorem nl86_36 (x : GStamp) : x.enc[36]? = some (.int .i64 x.sig.by_) := by
  have h := (GSig.at_by_ (GStamp.at_sig (get?_new (w := (default : World)) 86 x)))
  simp only [Addr.add_lit, Nat.zero_add, Nat.reduceAdd, World.cell?_alloc_new, List.getElem?_toArray] at h
  exact h
@[go_sem] theorem nl86_37 (x : GStamp) : x.enc[37]? = some (.int .i64 x.sig.mark) := by
  have h := (GSig.at_mark (GStamp.at_sig (get?_new (w := (default : World)) 86 x)))
  simp only [Addr.add_lit, Nat.zero_add, Nat.reduceAdd, World.cell?_alloc_new, List.getElem?_toArray] at h
  exact h
@[go_sem] theorem nw86 (w : World) (n : Nat) (x : GStamp) (hn : n = w.heap.size) : get? GStamp (w.alloc (.cells (GStamp.enc x).toArray 86)) ⟨n, 0, none⟩ = some x := by
  subst hn; exact get?_new 86 x
theorem pl86 : ((Try.prog.fieldsOf 86).toList.mapM fun f => (Try.prog.info? f.type).map fun i => (f.offset, i.size)) = some [(0, 1), (1, 2), (3, 32), (35, 1), (36, 2)] := by kernel_rfl
theorem fs86_3 (x : GStamp) (v : Int) (rest : List (Nat × Value)) : Instr.fill (fun i => ([(0, 1), (1, 2), (3, 32), (35, 1), (36, 2)] : List (Nat × Nat))[i]?) x.enc.toArray ((3, (.int .u64 v)) :: rest) = Instr.fill (fun i => ([(0, 1), (1, 2), (3, 32), (35, 1), (36, 2)] : List (Nat × Nat))[i]?) ({ x with time := v } : GStamp).enc.toArray rest := by
  have h := fill_seg [(0, 1), (1, 2), (3, 32), (35, 1), (36, 2)] 3 35 1 rfl (([] : List Value) ++ ([(.int .i64 x.replica)] ++ (x.name.enc ++ (x.hash.enc)))) ([(.int .u64 x.time)]) (x.sig.enc ++ (([] : List Value))) ([(.int .u64 v)]) (.int .u64 v) rest (rfl) (by simp [GHash.enc_len, GName.enc_len, GSig.enc_len]) (by simp [GHash.enc_len, GName.enc_len, GSig.enc_len]) (by simp [GHash.enc_len, GName.enc_len, GSig.enc_len])
  have e1 : x.enc = (([] : List Value) ++ ([(.int .i64 x.replica)] ++ (x.name.enc ++ (x.hash.enc)))) ++ ([(.int .u64 x.time)] ++ (x.sig.enc ++ (([] : List Value)))) := by simp [GStamp.enc]
  have e2 : ({ x with time := v } : GStamp).enc = (([] : List Value) ++ ([(.int .i64 x.replica)] ++ (x.name.enc ++ (x.hash.enc)))) ++ ([(.int .u64 v)] ++ (x.sig.enc ++ (([] : List Value)))) := by simp [GStamp.enc]
  rw [e1, e2]; exact h
@[go_sem ↓ high] theorem xd_GStamp (ρ : Operand → Value) (dst : Option Tmp) (ps : Array (Nat × Operand)) (ty : TypeId) (pos : String) (after : Array Edge) (guard : Option (Nat × Bool)) : execOp ρ { dst, op := .build 86 ps, type := ty, pos, after, guard } = (do pure (.value (← gBuild 86 (ps.map fun (i, x) => (i, ρ x))))) := ex_build ..
@[go_sem ↓ high] theorem bd86_0 (w : World) (v3 : Int) : (gBuild 86 #[(3, (.int .u64 v3))]).run Try.prog w = .ok (GStamp.val ⟨0, default, default, v3, default⟩) w := by
  rw [GStamp.val_eq]
  refine run_gBuild_of uu86 zr86 pl86 ?_ w
  show Instr.fill _ (GStamp.enc default).toArray [(3, (.int .u64 v3))] = _
  rw [fs86_3]; rfl
theorem eq_GStamp (w : World) (d : Nat) (x y : GStamp) : (Op.equalIn (d + 3) 86 (GStamp.val x) (GStamp.val y)).run Try.prog w = .ok (decide (x = y)) w := by
  have q0 : ∀ a b, (Op.equalIn (d + 2) 3 (.int .i64 a) (.int .i64 b)).run Try.prog w = .ok (decide (a = b)) w := fun a b => by rw [run_equalIn_int w (d + 1) 3 .i64 .i64 a b uk3]; congr 1
  have q1 : (Op.equalIn (d + 2) 25 x.name.val y.name.val).run Try.prog w = .ok (decide (x.name = y.name)) w := eq_GName w (d + 0) _ _
  have q2 : (Op.equalIn (d + 2) 27 x.hash.val y.hash.val).run Try.prog w = .ok (decide (x.hash = y.hash)) w := eq_GHash w (d + 0) _ _
  have q3 : ∀ a b, (Op.equalIn (d + 2) 28 (.int .u64 a) (.int .u64 b)).run Try.prog w = .ok (decide (a = b)) w := fun a b => by rw [run_equalIn_int w (d + 1) 28 .u64 .u64 a b uk28]; congr 1
  have q4 : (Op.equalIn (d + 2) 82 x.sig.val y.sig.val).run Try.prog w = .ok (decide (x.sig = y.sig)) w := eq_GSig w (d + 0) _ _
  have h := run_equalIn_fields (d + 2) x.enc.toArray y.enc.toArray w uu86 st86 nb86
  rw [fl86] at h
  unfold GStamp.val
  refine h.trans ?_
  clear h
  simp only [eqFs, Sem.run_bind, pt86_0, pt86_1, pt86_2, pt86_3, pt86_4, q0, q1, q2, q3, q4, Result.andThen_ok, Sem.run_ite, Sem.run_pure]
  have he : decide (x = y) = (decide (x.replica = y.replica) && (decide (x.name = y.name) && (decide (x.hash = y.hash) && (decide (x.time = y.time) && (decide (x.sig = y.sig)))))) := by
    rw [Bool.eq_iff_iff]; simp only [Bool.and_eq_true, decide_eq_true_eq]; exact GStamp.ext_all x y
  rw [he]
  generalize decide (x.replica = y.replica) = c0; generalize decide (x.name = y.name) = c1; generalize decide (x.hash = y.hash) = c2; generalize decide (x.time = y.time) = c3; generalize decide (x.sig = y.sig) = c4
  cases c0 <;> cases c1 <;> cases c2 <;> cases c3 <;> cases c4 <;> simp
@[go_sem ↓ high] theorem xq_GStamp (ρ : Operand → Value) (dst : Option Tmp) (x y : Operand) (ty yt : TypeId) (pos : String) (after : Array Edge) (guard : Option (Nat × Bool)) : execOp ρ { dst, op := .binOp .eql 86 x y yt, type := ty, pos, after, guard } = (do pure (.value (← gBin .eql 86 x y (ρ x) (ρ y)))) := ex_eql ..
@[go_sem ↓ high] theorem xn_GStamp (ρ : Operand → Value) (dst : Option Tmp) (x y : Operand) (ty yt : TypeId) (pos : String) (after : Array Edge) (guard : Option (Nat × Bool)) : execOp ρ { dst, op := .binOp .neq 86 x y yt, type := ty, pos, after, guard } = (do pure (.value (← gBin .neq 86 x y (ρ x) (ρ y)))) := ex_neq ..
theorem eg_GStamp : Try.prog.eqGuardType Try.prog.depth 86 = false := by kernel_rfl
@[go_sem ↓ high] theorem eql_GStamp (w : World) (ox oy : Operand) (x y : GStamp) : (gBin .eql 86 ox oy (GStamp.val x) (GStamp.val y)).run Try.prog w = .ok (.bool (decide (x = y))) w := by
  have h2 := eq_GStamp w 9997 x y
  rw [GStamp.val_eq, GStamp.val_eq] at h2 ⊢
  have h := run_eqGuard_agg (P := Try.prog) w .eql 86 ox oy (Enc.enc x).toArray (Enc.enc y).toArray eg_GStamp
  unfold gBin
  simp only [Sem.run_bind, h, Result.andThen_ok, run_eql_struct, h2]
@[go_sem ↓ high] theorem neq_GStamp (w : World) (ox oy : Operand) (x y : GStamp) : (gBin .neq 86 ox oy (GStamp.val x) (GStamp.val y)).run Try.prog w = .ok (.bool (!decide (x = y))) w := by
  have h2 := eq_GStamp w 9997 x y
  rw [GStamp.val_eq, GStamp.val_eq] at h2 ⊢
  have h := run_eqGuard_agg (P := Try.prog) w .neq 86 ox oy (Enc.enc x).toArray (Enc.enc y).toArray eg_GStamp
  unfold gBin
  simp only [Sem.run_bind, h, Result.andThen_ok, run_neq_struct, h2]

/-! ### gavel/api.Deny -/
structure GDeny where
  replica : Int
  index : Int
  sig : GSig
deriving DecidableEq
instance : Inhabited GDeny := ⟨⟨0, 0, default⟩⟩
def GDeny.enc (x : GDeny) : List Value := [(.int .i64 x.replica)] ++ ([(.int .i64 x.index)] ++ (x.sig.enc))
theorem GDeny.enc_len (x : GDeny) : x.enc.length = 4 := by simp [GDeny.enc, GSig.enc_len]
theorem GDeny.enc_one (x : GDeny) : ∀ u ∈ x.enc, u.oneCell' = true := by
  intro u hu
  simp only [GDeny.enc, List.mem_append, List.mem_singleton] at hu
  rcases hu with hu | hu | hu
  · subst hu; rfl
  · subst hu; rfl
  · exact Enc.one (α := GSig) _ _ hu
theorem GDeny.enc_inj (x y : GDeny) (h : x.enc = y.enc) : x = y := by
  obtain ⟨a0, a1, a2⟩ := x
  obtain ⟨b0, b1, b2⟩ := y
  simp only [GDeny.enc] at h
  obtain ⟨p0, q0⟩ := List.append_inj h (rfl)
  have e0 : a0 = b0 := by have := List.head_eq_of_cons_eq p0; injection this
  obtain ⟨p1, q1⟩ := List.append_inj q0 (rfl)
  have e1 : a1 = b1 := by have := List.head_eq_of_cons_eq p1; injection this
  have e2 := Enc.inj (α := GSig) _ _ q1
  rw [e0, e1, e2]
instance : Enc GDeny where
  n := 4
  enc := GDeny.enc
  pos := by omega
  len := GDeny.enc_len
  one := GDeny.enc_one
  inj := GDeny.enc_inj
@[go_sem] theorem GDeny.n_eq : Enc.n GDeny = 4 := rfl
@[irreducible] def GDeny.val (x : GDeny) : Value := .agg x.enc.toArray
theorem GDeny.val_eq (x : GDeny) : GDeny.val x = .agg (Enc.enc x).toArray := by unfold GDeny.val; rfl
theorem GDeny.ext_all (x y : GDeny) : x = y ↔ x.replica = y.replica ∧ x.index = y.index ∧ x.sig = y.sig := by
  constructor
  · intro h; cases h; simp
  · intro h; cases x; cases y; simp_all
theorem uu299 : Try.prog.underlying 299 = some (.struct (Try.prog.fieldsOf 299)) := by kernel_rfl
theorem st299 : Try.prog.stoodInHeld 299 = false := by kernel_rfl
theorem fl299 : fieldTO Try.prog 299 = [(3, 0), (3, 1), (82, 2)] := by kernel_rfl
theorem nb299 : noBlank Try.prog 299 = true := by kernel_rfl
@[go_sem ↓ high] theorem xl_GDeny (ρ : Operand → Value) (dst : Option Tmp) (x : Operand) (ty : TypeId) (pos : String) (after : Array Edge) (guard : Option (Nat × Bool)) : execOp ρ { dst, op := .load 299 x, type := ty, pos, after, guard } = (do pure (.value (← gLoad 299 (ρ x)))) := ex_load ..
@[go_sem ↓ high] theorem xs_GDeny (ρ : Operand → Value) (dst : Option Tmp) (x y : Operand) (ty : TypeId) (pos : String) (after : Array Edge) (guard : Option (Nat × Bool)) : execOp ρ { dst, op := .store 299 x y, type := ty, pos, after, guard } = (do gStore 299 (ρ x) (ρ y); pure .skip) := ex_store ..
@[go_sem ↓ high] theorem xb_GDeny (ρ : Operand → Value) (dst : Option Tmp) (x : Operand) (ty : TypeId) (pos : String) (after : Array Edge) (guard : Option (Nat × Bool)) : execOp ρ { dst, op := .box 299 x, type := ty, pos, after, guard } = (do pure (.value (← gBox 299 (ρ x)))) := ex_box ..
@[go_sem ↓ high] theorem xa_GDeny (ρ : Operand → Value) (dst : Option Tmp) (ty : TypeId) (pos : String) (after : Array Edge) (guard : Option (Nat × Bool)) : execOp ρ { dst, op := .alloc 299, type := ty, pos, after, guard } = (do pure (.value (← gAlloc 299))) := ex_alloc ..
theorem ag299 : aggT Try.prog 299 = true := by kernel_rfl
theorem sz299 : sizeT Try.prog 299 = 4 := by kernel_rfl
section
variable (w : World)
@[go_sem ↓ high] theorem ld_GDeny (a : Addr) : (gLoad 299 (.pointer (some a))).run Try.prog w = ofOpt ((get? GDeny w a).map GDeny.val) w (noLoad Try.prog 299 a w) := by
  unfold gLoad; exact run_loadAt_opt ag299 sz299 GDeny.val GDeny.val_eq
@[go_sem ↓ high] theorem st_GDeny (a : Addr) (x : GDeny) : (gStore 299 (.pointer (some a)) (GDeny.val x)).run Try.prog w = okU' ((get? GDeny w a).isSome && blkFree w a.block) (World.putCells w a (GDeny.enc x)) (noStore Try.prog 299 (.pointer (some a)) (GDeny.val x) w) := run_gStore_any sz299 GDeny.val GDeny.val_eq w a x
@[go_sem ↓ high] theorem bx_GDeny (x : GDeny) : (gBox 299 (GDeny.val x)).run Try.prog w = .ok (.pointer (some ⟨w.heap.size, 0, none⟩)) (w.alloc (.cells (GDeny.enc x).toArray 299)) := by
  rw [GDeny.val_eq]; exact run_gBox _ w
end
theorem lk299_0 (x : GDeny) : x.enc[0]? = some (.int .i64 x.replica) := by
  simp [GDeny.enc, List.getElem?_append]
theorem pt299_0 (w : World) (x : GDeny) : (part 3 x.enc.toArray 0).run Try.prog w = .ok (.int .i64 x.replica) w := run_part_one na3 us3 (lk299_0 x)
@[go_sem ↓ high] theorem fd299_0 (w : World) (x : GDeny) : (gField 299 (GDeny.val x) 0).run Try.prog w = .ok (.int .i64 x.replica) w := by
  rw [GDeny.val_eq]
  exact run_gField w uu299 (by rw [fl299]; rfl) (pt299_0 w x)
theorem lk299_1 (x : GDeny) : x.enc[1]? = some (.int .i64 x.index) := by
  simp [GDeny.enc, List.getElem?_append]
theorem pt299_1 (w : World) (x : GDeny) : (part 3 x.enc.toArray 1).run Try.prog w = .ok (.int .i64 x.index) w := run_part_one na3 us3 (lk299_1 x)
@[go_sem ↓ high] theorem fd299_1 (w : World) (x : GDeny) : (gField 299 (GDeny.val x) 1).run Try.prog w = .ok (.int .i64 x.index) w := by
  rw [GDeny.val_eq]
  exact run_gField w uu299 (by rw [fl299]; rfl) (pt299_1 w x)
theorem ds299_2 (x : GDeny) : (x.enc.drop 2).take 2 = x.sig.enc := by
  unfold GDeny.enc
  simp [List.drop_append, List.drop_eq_nil_of_le]
  exact List.take_of_length_le (by simp [GSig.enc_len])
theorem pt299_2 (w : World) (x : GDeny) : (part 82 x.enc.toArray 2).run Try.prog w = .ok (x.sig.val) w := by
  have h := run_part_agg (P := Try.prog) (w := w) (cs := x.enc) (ds := x.sig.enc) (off := 2) ag82 (by rw [GSig.enc_len]; exact sz82) (by simp [GSig.enc_len]) (by rw [GSig.enc_len]; exact ds299_2 x)
  rw [h, GSig.val_eq]; rfl
@[go_sem ↓ high] theorem fd299_2 (w : World) (x : GDeny) : (gField 299 (GDeny.val x) 2).run Try.prog w = .ok (x.sig.val) w := by
  rw [GDeny.val_eq]
  exact run_gField w uu299 (by rw [fl299]; rfl) (pt299_2 w x)
@[go_sem ↓ high] theorem xf_GDeny (ρ : Operand → Value) (dst : Option Tmp) (x : Operand) (i : Nat) (ty : TypeId) (pos : String) (after : Array Edge) (guard : Option (Nat × Bool)) : execOp ρ { dst, op := .field 299 x i, type := ty, pos, after, guard } = (do pure (.value (← gField 299 (ρ x) i))) := ex_field ..
theorem zr299 : zeroT Try.prog 299 = some (.agg (GDeny.enc default).toArray) := by kernel_rfl
@[go_sem ↓ high] theorem al_GDeny (w : World) : (gAlloc 299).run Try.prog w = .ok (.pointer (some ⟨w.heap.size, 0, none⟩)) (w.alloc (.cells (GDeny.enc default).toArray 299)) := run_zero_alloc zr299 w
@[go_sem] theorem pc_GDeny (w : World) (n : Nat) (x z : GDeny) (hn : n = w.heap.size) : World.putCells (w.alloc (.cells (GDeny.enc z).toArray 299)) ⟨n, 0, none⟩ (GDeny.enc x) = w.alloc (.cells (GDeny.enc x).toArray 299) := putCells_top x z hn
theorem GDeny.at_replica {w : World} {a : Addr} {x : GDeny} (h : get? GDeny w a = some x) : w.cell? (a.add 0) = some (.int .i64 x.replica) := (get?_iff.1 h) _ _ (lk299_0 x)
theorem GDeny.at_index {w : World} {a : Addr} {x : GDeny} (h : get? GDeny w a = some x) : w.cell? (a.add 1) = some (.int .i64 x.index) := (get?_iff.1 h) _ _ (lk299_1 x)
theorem GDeny.at_sig {w : World} {a : Addr} {x : GDeny} (h : get? GDeny w a = some x) : get? GSig w (a.add 2) = some x.sig := by
  rw [get?_iff] at h ⊢
  refine h.sub 2 fun j v hv => ?_
  have hd := ds299_2 x
  have hj : j < 2 := by have := (List.getElem?_eq_some_iff.1 hv).1; rwa [Enc.len] at this
  show x.enc[2 + j]? = some v
  rw [← List.getElem?_drop, ← List.getElem?_take_of_lt hj, hd]; exact hv
@[go_sem] theorem nl299_0 (x : GDeny) : x.enc[0]? = some (.int .i64 x.replica) := by
  have h := (GDeny.at_replica (get?_new (w := (default : World)) 299 x))
  simp only [Addr.add_lit, Nat.zero_add, Nat.reduceAdd, World.cell?_alloc_new, List.getElem?_toArray] at h
  exact h
@[go_sem] theorem nl299_1 (x : GDeny) : x.enc[1]? = some (.int .i64 x.index) := by
  have h := (GDeny.at_index (get?_new (w := (default : World)) 299 x))
  simp only [Addr.add_lit, Nat.zero_add, Nat.reduceAdd, World.cell?_alloc_new, List.getElem?_toArray] at h
  exact h
@[go_sem] theorem nw299_2_GSig (w : World) (n : Nat) (x : GDeny) (hn : n = w.heap.size) : get? GSig (w.alloc (.cells (GDeny.enc x).toArray 299)) ⟨n, 2, none⟩ = some x.sig := by
  subst hn
  have h := (GDeny.at_sig (get?_new (w := w) 299 x))
  simp only [Addr.add_lit, Nat.zero_add, Nat.reduceAdd] at h
  exact h
@[go_sem] theorem nl299_2 (x : GDeny) : x.enc[2]? = some (.int .i64 x.sig.by_) := by
  have h := (GSig.at_by_ (GDeny.at_sig (get?_new (w := (default : World)) 299 x)))
  simp only [Addr.add_lit, Nat.zero_add, Nat.reduceAdd, World.cell?_alloc_new, List.getElem?_toArray] at h
  exact h
@[go_sem] theorem nl299_3 (x : GDeny) : x.enc[3]? = some (.int .i64 x.sig.mark) := by
  have h := (GSig.at_mark (GDeny.at_sig (get?_new (w := (default : World)) 299 x)))
  simp only [Addr.add_lit, Nat.zero_add, Nat.reduceAdd, World.cell?_alloc_new, List.getElem?_toArray] at h
  exact h
@[go_sem] theorem nw299 (w : World) (n : Nat) (x : GDeny) (hn : n = w.heap.size) : get? GDeny (w.alloc (.cells (GDeny.enc x).toArray 299)) ⟨n, 0, none⟩ = some x := by
  subst hn; exact get?_new 299 x
theorem eq_GDeny (w : World) (d : Nat) (x y : GDeny) : (Op.equalIn (d + 3) 299 (GDeny.val x) (GDeny.val y)).run Try.prog w = .ok (decide (x = y)) w := by
  have q0 : ∀ a b, (Op.equalIn (d + 2) 3 (.int .i64 a) (.int .i64 b)).run Try.prog w = .ok (decide (a = b)) w := fun a b => by rw [run_equalIn_int w (d + 1) 3 .i64 .i64 a b uk3]; congr 1
  have q1 : ∀ a b, (Op.equalIn (d + 2) 3 (.int .i64 a) (.int .i64 b)).run Try.prog w = .ok (decide (a = b)) w := fun a b => by rw [run_equalIn_int w (d + 1) 3 .i64 .i64 a b uk3]; congr 1
  have q2 : (Op.equalIn (d + 2) 82 x.sig.val y.sig.val).run Try.prog w = .ok (decide (x.sig = y.sig)) w := eq_GSig w (d + 0) _ _
  have h := run_equalIn_fields (d + 2) x.enc.toArray y.enc.toArray w uu299 st299 nb299
  rw [fl299] at h
  unfold GDeny.val
  refine h.trans ?_
  clear h
  simp only [eqFs, Sem.run_bind, pt299_0, pt299_1, pt299_2, q0, q1, q2, Result.andThen_ok, Sem.run_ite, Sem.run_pure]
  have he : decide (x = y) = (decide (x.replica = y.replica) && (decide (x.index = y.index) && (decide (x.sig = y.sig)))) := by
    rw [Bool.eq_iff_iff]; simp only [Bool.and_eq_true, decide_eq_true_eq]; exact GDeny.ext_all x y
  rw [he]
  generalize decide (x.replica = y.replica) = c0; generalize decide (x.index = y.index) = c1; generalize decide (x.sig = y.sig) = c2
  cases c0 <;> cases c1 <;> cases c2 <;> simp
@[go_sem ↓ high] theorem xq_GDeny (ρ : Operand → Value) (dst : Option Tmp) (x y : Operand) (ty yt : TypeId) (pos : String) (after : Array Edge) (guard : Option (Nat × Bool)) : execOp ρ { dst, op := .binOp .eql 299 x y yt, type := ty, pos, after, guard } = (do pure (.value (← gBin .eql 299 x y (ρ x) (ρ y)))) := ex_eql ..
@[go_sem ↓ high] theorem xn_GDeny (ρ : Operand → Value) (dst : Option Tmp) (x y : Operand) (ty yt : TypeId) (pos : String) (after : Array Edge) (guard : Option (Nat × Bool)) : execOp ρ { dst, op := .binOp .neq 299 x y yt, type := ty, pos, after, guard } = (do pure (.value (← gBin .neq 299 x y (ρ x) (ρ y)))) := ex_neq ..
theorem eg_GDeny : Try.prog.eqGuardType Try.prog.depth 299 = false := by kernel_rfl
@[go_sem ↓ high] theorem eql_GDeny (w : World) (ox oy : Operand) (x y : GDeny) : (gBin .eql 299 ox oy (GDeny.val x) (GDeny.val y)).run Try.prog w = .ok (.bool (decide (x = y))) w := by
  have h2 := eq_GDeny w 9997 x y
  rw [GDeny.val_eq, GDeny.val_eq] at h2 ⊢
  have h := run_eqGuard_agg (P := Try.prog) w .eql 299 ox oy (Enc.enc x).toArray (Enc.enc y).toArray eg_GDeny
  unfold gBin
  simp only [Sem.run_bind, h, Result.andThen_ok, run_eql_struct, h2]
@[go_sem ↓ high] theorem neq_GDeny (w : World) (ox oy : Operand) (x y : GDeny) : (gBin .neq 299 ox oy (GDeny.val x) (GDeny.val y)).run Try.prog w = .ok (.bool (!decide (x = y))) w := by
  have h2 := eq_GDeny w 9997 x y
  rw [GDeny.val_eq, GDeny.val_eq] at h2 ⊢
  have h := run_eqGuard_agg (P := Try.prog) w .neq 299 ox oy (Enc.enc x).toArray (Enc.enc y).toArray eg_GDeny
  unfold gBin
  simp only [Sem.run_bind, h, Result.andThen_ok, run_neq_struct, h2]

/-! ### gavel/batch.Base -/
structure GBatchBase where
  conf : GConf
  epoch : Int
  last : Int
  logged : Option Nat
  open_ : Option Nat
deriving DecidableEq
instance : Inhabited GBatchBase := ⟨⟨default, 0, 0, none, none⟩⟩
def GBatchBase.enc (x : GBatchBase) : List Value := x.conf.enc ++ ([(.int .i64 x.epoch)] ++ ([(.int .u64 x.last)] ++ ([(.map x.logged)] ++ ([(.map x.open_)]))))
theorem GBatchBase.enc_len (x : GBatchBase) : x.enc.length = 6 := by simp [GBatchBase.enc, GConf.enc_len]
theorem GBatchBase.enc_one (x : GBatchBase) : ∀ u ∈ x.enc, u.oneCell' = true := by
  intro u hu
  simp only [GBatchBase.enc, List.mem_append, List.mem_singleton] at hu
  rcases hu with hu | hu | hu | hu | hu
  · exact Enc.one (α := GConf) _ _ hu
  · subst hu; rfl
  · subst hu; rfl
  · subst hu; rfl
  · subst hu; rfl
theorem GBatchBase.enc_inj (x y : GBatchBase) (h : x.enc = y.enc) : x = y := by
  obtain ⟨a0, a1, a2, a3, a4⟩ := x
  obtain ⟨b0, b1, b2, b3, b4⟩ := y
  simp only [GBatchBase.enc] at h
  obtain ⟨p0, q0⟩ := List.append_inj h (by simp [GConf.enc_len])
  have e0 := Enc.inj (α := GConf) _ _ p0
  obtain ⟨p1, q1⟩ := List.append_inj q0 (rfl)
  have e1 : a1 = b1 := by have := List.head_eq_of_cons_eq p1; injection this
  obtain ⟨p2, q2⟩ := List.append_inj q1 (rfl)
  have e2 : a2 = b2 := by have := List.head_eq_of_cons_eq p2; injection this
  obtain ⟨p3, q3⟩ := List.append_inj q2 (rfl)
  have e3 : a3 = b3 := by have := List.head_eq_of_cons_eq p3; injection this
  have e4 : a4 = b4 := by have := List.head_eq_of_cons_eq q3; injection this
  rw [e0, e1, e2, e3, e4]
instance : Enc GBatchBase where
  n := 6
  enc := GBatchBase.enc
  pos := by omega
  len := GBatchBase.enc_len
  one := GBatchBase.enc_one
  inj := GBatchBase.enc_inj
@[go_sem] theorem GBatchBase.n_eq : Enc.n GBatchBase = 6 := rfl
@[irreducible] def GBatchBase.val (x : GBatchBase) : Value := .agg x.enc.toArray
theorem GBatchBase.val_eq (x : GBatchBase) : GBatchBase.val x = .agg (Enc.enc x).toArray := by unfold GBatchBase.val; rfl
theorem GBatchBase.ext_all (x y : GBatchBase) : x = y ↔ x.conf = y.conf ∧ x.epoch = y.epoch ∧ x.last = y.last ∧ x.logged = y.logged ∧ x.open_ = y.open_ := by
  constructor
  · intro h; cases h; simp
  · intro h; cases x; cases y; simp_all
theorem uu113 : Try.prog.underlying 113 = some (.struct (Try.prog.fieldsOf 113)) := by kernel_rfl
theorem st113 : Try.prog.stoodInHeld 113 = false := by kernel_rfl
theorem fl113 : fieldTO Try.prog 113 = [(109, 0), (3, 2), (28, 3), (110, 4), (111, 5)] := by kernel_rfl
theorem nb113 : noBlank Try.prog 113 = true := by kernel_rfl
@[go_sem ↓ high] theorem xl_GBatchBase (ρ : Operand → Value) (dst : Option Tmp) (x : Operand) (ty : TypeId) (pos : String) (after : Array Edge) (guard : Option (Nat × Bool)) : execOp ρ { dst, op := .load 113 x, type := ty, pos, after, guard } = (do pure (.value (← gLoad 113 (ρ x)))) := ex_load ..
@[go_sem ↓ high] theorem xs_GBatchBase (ρ : Operand → Value) (dst : Option Tmp) (x y : Operand) (ty : TypeId) (pos : String) (after : Array Edge) (guard : Option (Nat × Bool)) : execOp ρ { dst, op := .store 113 x y, type := ty, pos, after, guard } = (do gStore 113 (ρ x) (ρ y); pure .skip) := ex_store ..
@[go_sem ↓ high] theorem xb_GBatchBase (ρ : Operand → Value) (dst : Option Tmp) (x : Operand) (ty : TypeId) (pos : String) (after : Array Edge) (guard : Option (Nat × Bool)) : execOp ρ { dst, op := .box 113 x, type := ty, pos, after, guard } = (do pure (.value (← gBox 113 (ρ x)))) := ex_box ..
@[go_sem ↓ high] theorem xa_GBatchBase (ρ : Operand → Value) (dst : Option Tmp) (ty : TypeId) (pos : String) (after : Array Edge) (guard : Option (Nat × Bool)) : execOp ρ { dst, op := .alloc 113, type := ty, pos, after, guard } = (do pure (.value (← gAlloc 113))) := ex_alloc ..
theorem ag113 : aggT Try.prog 113 = true := by kernel_rfl
theorem sz113 : sizeT Try.prog 113 = 6 := by kernel_rfl
section
variable (w : World)
@[go_sem ↓ high] theorem ld_GBatchBase (a : Addr) : (gLoad 113 (.pointer (some a))).run Try.prog w = ofOpt ((get? GBatchBase w a).map GBatchBase.val) w (noLoad Try.prog 113 a w) := by
  unfold gLoad; exact run_loadAt_opt ag113 sz113 GBatchBase.val GBatchBase.val_eq
@[go_sem ↓ high] theorem st_GBatchBase (a : Addr) (x : GBatchBase) : (gStore 113 (.pointer (some a)) (GBatchBase.val x)).run Try.prog w = okU' ((get? GBatchBase w a).isSome && blkFree w a.block) (World.putCells w a (GBatchBase.enc x)) (noStore Try.prog 113 (.pointer (some a)) (GBatchBase.val x) w) := run_gStore_any sz113 GBatchBase.val GBatchBase.val_eq w a x
@[go_sem ↓ high] theorem bx_GBatchBase (x : GBatchBase) : (gBox 113 (GBatchBase.val x)).run Try.prog w = .ok (.pointer (some ⟨w.heap.size, 0, none⟩)) (w.alloc (.cells (GBatchBase.enc x).toArray 113)) := by
  rw [GBatchBase.val_eq]; exact run_gBox _ w
end
theorem ds113_0 (x : GBatchBase) : (x.enc.drop 0).take 2 = x.conf.enc := by
  unfold GBatchBase.enc
  simp only [List.drop_zero]
  rw [List.take_append_of_le_length (by simp [GConf.enc_len])]; exact List.take_of_length_le (by simp [GConf.enc_len])
theorem pt113_0 (w : World) (x : GBatchBase) : (part 109 x.enc.toArray 0).run Try.prog w = .ok (x.conf.val) w := by
  have h := run_part_agg (P := Try.prog) (w := w) (cs := x.enc) (ds := x.conf.enc) (off := 0) ag109 (by rw [GConf.enc_len]; exact sz109) (by simp [GConf.enc_len]) (by rw [GConf.enc_len]; exact ds113_0 x)
  rw [h, GConf.val_eq]; rfl
@[go_sem ↓ high] theorem fd113_0 (w : World) (x : GBatchBase) : (gField 113 (GBatchBase.val x) 0).run Try.prog w = .ok (x.conf.val) w := by
  rw [GBatchBase.val_eq]
  exact run_gField w uu113 (by rw [fl113]; rfl) (pt113_0 w x)
theorem lk113_1 (x : GBatchBase) : x.enc[2]? = some (.int .i64 x.epoch) := by
  simp [GBatchBase.enc, List.getElem?_append, GConf.enc_len]
theorem pt113_1 (w : World) (x : GBatchBase) : (part 3 x.enc.toArray 2).run Try.prog w = .ok (.int .i64 x.epoch) w := run_part_one na3 us3 (lk113_1 x)
@[go_sem ↓ high] theorem fd113_1 (w : World) (x : GBatchBase) : (gField 113 (GBatchBase.val x) 1).run Try.prog w = .ok (.int .i64 x.epoch) w := by
  rw [GBatchBase.val_eq]
  exact run_gField w uu113 (by rw [fl113]; rfl) (pt113_1 w x)
theorem lk113_2 (x : GBatchBase) : x.enc[3]? = some (.int .u64 x.last) := by
  simp [GBatchBase.enc, List.getElem?_append, GConf.enc_len]
theorem pt113_2 (w : World) (x : GBatchBase) : (part 28 x.enc.toArray 3).run Try.prog w = .ok (.int .u64 x.last) w := run_part_one na28 us28 (lk113_2 x)
@[go_sem ↓ high] theorem fd113_2 (w : World) (x : GBatchBase) : (gField 113 (GBatchBase.val x) 2).run Try.prog w = .ok (.int .u64 x.last) w := by
  rw [GBatchBase.val_eq]
  exact run_gField w uu113 (by rw [fl113]; rfl) (pt113_2 w x)
theorem lk113_3 (x : GBatchBase) : x.enc[4]? = some (.map x.logged) := by
  simp [GBatchBase.enc, List.getElem?_append, GConf.enc_len]
theorem pt113_3 (w : World) (x : GBatchBase) : (part 110 x.enc.toArray 4).run Try.prog w = .ok (.map x.logged) w := run_part_one na110 us110 (lk113_3 x)
@[go_sem ↓ high] theorem fd113_3 (w : World) (x : GBatchBase) : (gField 113 (GBatchBase.val x) 3).run Try.prog w = .ok (.map x.logged) w := by
  rw [GBatchBase.val_eq]
  exact run_gField w uu113 (by rw [fl113]; rfl) (pt113_3 w x)
theorem lk113_4 (x : GBatchBase) : x.enc[5]? = some (.map x.open_) := by
  simp [GBatchBase.enc, List.getElem?_append, GConf.enc_len]
theorem pt113_4 (w : World) (x : GBatchBase) : (part 111 x.enc.toArray 5).run Try.prog w = .ok (.map x.open_) w := run_part_one na111 us111 (lk113_4 x)
@[go_sem ↓ high] theorem fd113_4 (w : World) (x : GBatchBase) : (gField 113 (GBatchBase.val x) 4).run Try.prog w = .ok (.map x.open_) w := by
  rw [GBatchBase.val_eq]
  exact run_gField w uu113 (by rw [fl113]; rfl) (pt113_4 w x)
@[go_sem ↓ high] theorem xf_GBatchBase (ρ : Operand → Value) (dst : Option Tmp) (x : Operand) (i : Nat) (ty : TypeId) (pos : String) (after : Array Edge) (guard : Option (Nat × Bool)) : execOp ρ { dst, op := .field 113 x i, type := ty, pos, after, guard } = (do pure (.value (← gField 113 (ρ x) i))) := ex_field ..
theorem zr113 : zeroT Try.prog 113 = some (.agg (GBatchBase.enc default).toArray) := by kernel_rfl
@[go_sem ↓ high] theorem al_GBatchBase (w : World) : (gAlloc 113).run Try.prog w = .ok (.pointer (some ⟨w.heap.size, 0, none⟩)) (w.alloc (.cells (GBatchBase.enc default).toArray 113)) := run_zero_alloc zr113 w
@[go_sem] theorem pc_GBatchBase (w : World) (n : Nat) (x z : GBatchBase) (hn : n = w.heap.size) : World.putCells (w.alloc (.cells (GBatchBase.enc z).toArray 113)) ⟨n, 0, none⟩ (GBatchBase.enc x) = w.alloc (.cells (GBatchBase.enc x).toArray 113) := putCells_top x z hn
theorem GBatchBase.at_conf {w : World} {a : Addr} {x : GBatchBase} (h : get? GBatchBase w a = some x) : get? GConf w (a.add 0) = some x.conf := by
  rw [get?_iff] at h ⊢
  refine h.sub 0 fun j v hv => ?_
  have hd := ds113_0 x
  have hj : j < 2 := by have := (List.getElem?_eq_some_iff.1 hv).1; rwa [Enc.len] at this
  show x.enc[0 + j]? = some v
  rw [← List.getElem?_drop, ← List.getElem?_take_of_lt hj, hd]; exact hv
theorem GBatchBase.at_epoch {w : World} {a : Addr} {x : GBatchBase} (h : get? GBatchBase w a = some x) : w.cell? (a.add 2) = some (.int .i64 x.epoch) := (get?_iff.1 h) _ _ (lk113_1 x)
theorem GBatchBase.at_last {w : World} {a : Addr} {x : GBatchBase} (h : get? GBatchBase w a = some x) : w.cell? (a.add 3) = some (.int .u64 x.last) := (get?_iff.1 h) _ _ (lk113_2 x)
theorem GBatchBase.at_logged {w : World} {a : Addr} {x : GBatchBase} (h : get? GBatchBase w a = some x) : w.cell? (a.add 4) = some (.map x.logged) := (get?_iff.1 h) _ _ (lk113_3 x)
theorem GBatchBase.at_open_ {w : World} {a : Addr} {x : GBatchBase} (h : get? GBatchBase w a = some x) : w.cell? (a.add 5) = some (.map x.open_) := (get?_iff.1 h) _ _ (lk113_4 x)
@[go_sem] theorem nw113_0_GConf (w : World) (n : Nat) (x : GBatchBase) (hn : n = w.heap.size) : get? GConf (w.alloc (.cells (GBatchBase.enc x).toArray 113)) ⟨n, 0, none⟩ = some x.conf := by
  subst hn
  have h := (GBatchBase.at_conf (get?_new (w := w) 113 x))
  simp only [Addr.add_lit, Nat.zero_add, Nat.reduceAdd] at h
  exact h
@[go_sem] theorem nl113_0 (x : GBatchBase) : x.enc[0]? = some (.int .i64 x.conf.f) := by
  have h := (GConf.at_f (GBatchBase.at_conf (get?_new (w := (default : World)) 113 x)))
  simp only [Addr.add_lit, Nat.zero_add, Nat.reduceAdd, World.cell?_alloc_new, List.getElem?_toArray] at h
  exact h
@[go_sem] theorem nl113_1 (x : GBatchBase) : x.enc[1]? = some (.int .i64 x.conf.clients) := by
  have h := (GConf.at_clients (GBatchBase.at_conf (get?_new (w := (default : World)) 113 x)))
  simp only [Addr.add_lit, Nat.zero_add, Nat.reduceAdd, World.cell?_alloc_new, List.getElem?_toArray] at h
  exact h
@[go_sem] theorem nl113_2 (x : GBatchBase) : x.enc[2]? = some (.int .i64 x.epoch) := by
  have h := (GBatchBase.at_epoch (get?_new (w := (default : World)) 113 x))
  simp only [Addr.add_lit, Nat.zero_add, Nat.reduceAdd, World.cell?_alloc_new, List.getElem?_toArray] at h
  exact h
@[go_sem] theorem nl113_3 (x : GBatchBase) : x.enc[3]? = some (.int .u64 x.last) := by
  have h := (GBatchBase.at_last (get?_new (w := (default : World)) 113 x))
  simp only [Addr.add_lit, Nat.zero_add, Nat.reduceAdd, World.cell?_alloc_new, List.getElem?_toArray] at h
  exact h
@[go_sem] theorem nl113_4 (x : GBatchBase) : x.enc[4]? = some (.map x.logged) := by
  have h := (GBatchBase.at_logged (get?_new (w := (default : World)) 113 x))
  simp only [Addr.add_lit, Nat.zero_add, Nat.reduceAdd, World.cell?_alloc_new, List.getElem?_toArray] at h
  exact h
@[go_sem] theorem nl113_5 (x : GBatchBase) : x.enc[5]? = some (.map x.open_) := by
  have h := (GBatchBase.at_open_ (get?_new (w := (default : World)) 113 x))
  simp only [Addr.add_lit, Nat.zero_add, Nat.reduceAdd, World.cell?_alloc_new, List.getElem?_toArray] at h
  exact h
@[go_sem] theorem nw113 (w : World) (n : Nat) (x : GBatchBase) (hn : n = w.heap.size) : get? GBatchBase (w.alloc (.cells (GBatchBase.enc x).toArray 113)) ⟨n, 0, none⟩ = some x := by
  subst hn; exact get?_new 113 x
theorem pl113 : ((Try.prog.fieldsOf 113).toList.mapM fun f => (Try.prog.info? f.type).map fun i => (f.offset, i.size)) = some [(0, 2), (2, 1), (3, 1), (4, 1), (5, 1)] := by kernel_rfl
theorem fs113_0 (x : GBatchBase) (v : GConf) (rest : List (Nat × Value)) : Instr.fill (fun i => ([(0, 2), (2, 1), (3, 1), (4, 1), (5, 1)] : List (Nat × Nat))[i]?) x.enc.toArray ((0, (v.val)) :: rest) = Instr.fill (fun i => ([(0, 2), (2, 1), (3, 1), (4, 1), (5, 1)] : List (Nat × Nat))[i]?) ({ x with conf := v } : GBatchBase).enc.toArray rest := by
  have h := fill_seg [(0, 2), (2, 1), (3, 1), (4, 1), (5, 1)] 0 0 2 rfl (([] : List Value)) (x.conf.enc) ([(.int .i64 x.epoch)] ++ ([(.int .u64 x.last)] ++ ([(.map x.logged)] ++ ([(.map x.open_)] ++ (([] : List Value)))))) (v.enc) (v.val) rest (by rw [GConf.val_eq]; rfl) (by simp [GConf.enc_len]) (by simp [GConf.enc_len]) (by simp [GConf.enc_len])
  have e1 : x.enc = (([] : List Value)) ++ (x.conf.enc ++ ([(.int .i64 x.epoch)] ++ ([(.int .u64 x.last)] ++ ([(.map x.logged)] ++ ([(.map x.open_)] ++ (([] : List Value))))))) := by simp [GBatchBase.enc]
  have e2 : ({ x with conf := v } : GBatchBase).enc = (([] : List Value)) ++ (v.enc ++ ([(.int .i64 x.epoch)] ++ ([(.int .u64 x.last)] ++ ([(.map x.logged)] ++ ([(.map x.open_)] ++ (([] : List Value))))))) := by simp [GBatchBase.enc]
  rw [e1, e2]; exact h
theorem fs113_1 (x : GBatchBase) (v : Int) (rest : List (Nat × Value)) : Instr.fill (fun i => ([(0, 2), (2, 1), (3, 1), (4, 1), (5, 1)] : List (Nat × Nat))[i]?) x.enc.toArray ((1, (.int .i64 v)) :: rest) = Instr.fill (fun i => ([(0, 2), (2, 1), (3, 1), (4, 1), (5, 1)] : List (Nat × Nat))[i]?) ({ x with epoch := v } : GBatchBase).enc.toArray rest := by
  have h := fill_seg [(0, 2), (2, 1), (3, 1), (4, 1), (5, 1)] 1 2 1 rfl (([] : List Value) ++ (x.conf.enc)) ([(.int .i64 x.epoch)]) ([(.int .u64 x.last)] ++ ([(.map x.logged)] ++ ([(.map x.open_)] ++ (([] : List Value))))) ([(.int .i64 v)]) (.int .i64 v) rest (rfl) (by simp [GConf.enc_len]) (by simp [GConf.enc_len]) (by simp [GConf.enc_len])
  have e1 : x.enc = (([] : List Value) ++ (x.conf.enc)) ++ ([(.int .i64 x.epoch)] ++ ([(.int .u64 x.last)] ++ ([(.map x.logged)] ++ ([(.map x.open_)] ++ (([] : List Value)))))) := by simp [GBatchBase.enc]
  have e2 : ({ x with epoch := v } : GBatchBase).enc = (([] : List Value) ++ (x.conf.enc)) ++ ([(.int .i64 v)] ++ ([(.int .u64 x.last)] ++ ([(.map x.logged)] ++ ([(.map x.open_)] ++ (([] : List Value)))))) := by simp [GBatchBase.enc]
  rw [e1, e2]; exact h
theorem fs113_2 (x : GBatchBase) (v : Int) (rest : List (Nat × Value)) : Instr.fill (fun i => ([(0, 2), (2, 1), (3, 1), (4, 1), (5, 1)] : List (Nat × Nat))[i]?) x.enc.toArray ((2, (.int .u64 v)) :: rest) = Instr.fill (fun i => ([(0, 2), (2, 1), (3, 1), (4, 1), (5, 1)] : List (Nat × Nat))[i]?) ({ x with last := v } : GBatchBase).enc.toArray rest := by
  have h := fill_seg [(0, 2), (2, 1), (3, 1), (4, 1), (5, 1)] 2 3 1 rfl (([] : List Value) ++ (x.conf.enc ++ ([(.int .i64 x.epoch)]))) ([(.int .u64 x.last)]) ([(.map x.logged)] ++ ([(.map x.open_)] ++ (([] : List Value)))) ([(.int .u64 v)]) (.int .u64 v) rest (rfl) (by simp [GConf.enc_len]) (by simp [GConf.enc_len]) (by simp [GConf.enc_len])
  have e1 : x.enc = (([] : List Value) ++ (x.conf.enc ++ ([(.int .i64 x.epoch)]))) ++ ([(.int .u64 x.last)] ++ ([(.map x.logged)] ++ ([(.map x.open_)] ++ (([] : List Value))))) := by simp [GBatchBase.enc]
  have e2 : ({ x with last := v } : GBatchBase).enc = (([] : List Value) ++ (x.conf.enc ++ ([(.int .i64 x.epoch)]))) ++ ([(.int .u64 v)] ++ ([(.map x.logged)] ++ ([(.map x.open_)] ++ (([] : List Value))))) := by simp [GBatchBase.enc]
  rw [e1, e2]; exact h
theorem fs113_3 (x : GBatchBase) (v : Option Nat) (rest : List (Nat × Value)) : Instr.fill (fun i => ([(0, 2), (2, 1), (3, 1), (4, 1), (5, 1)] : List (Nat × Nat))[i]?) x.enc.toArray ((3, (.map v)) :: rest) = Instr.fill (fun i => ([(0, 2), (2, 1), (3, 1), (4, 1), (5, 1)] : List (Nat × Nat))[i]?) ({ x with logged := v } : GBatchBase).enc.toArray rest := by
  have h := fill_seg [(0, 2), (2, 1), (3, 1), (4, 1), (5, 1)] 3 4 1 rfl (([] : List Value) ++ (x.conf.enc ++ ([(.int .i64 x.epoch)] ++ ([(.int .u64 x.last)])))) ([(.map x.logged)]) ([(.map x.open_)] ++ (([] : List Value))) ([(.map v)]) (.map v) rest (rfl) (by simp [GConf.enc_len]) (by simp [GConf.enc_len]) (by simp [GConf.enc_len])
  have e1 : x.enc = (([] : List Value) ++ (x.conf.enc ++ ([(.int .i64 x.epoch)] ++ ([(.int .u64 x.last)])))) ++ ([(.map x.logged)] ++ ([(.map x.open_)] ++ (([] : List Value)))) := by simp [GBatchBase.enc]
  have e2 : ({ x with logged := v } : GBatchBase).enc = (([] : List Value) ++ (x.conf.enc ++ ([(.int .i64 x.epoch)] ++ ([(.int .u64 x.last)])))) ++ ([(.map v)] ++ ([(.map x.open_)] ++ (([] : List Value)))) := by simp [GBatchBase.enc]
  rw [e1, e2]; exact h
theorem fs113_4 (x : GBatchBase) (v : Option Nat) (rest : List (Nat × Value)) : Instr.fill (fun i => ([(0, 2), (2, 1), (3, 1), (4, 1), (5, 1)] : List (Nat × Nat))[i]?) x.enc.toArray ((4, (.map v)) :: rest) = Instr.fill (fun i => ([(0, 2), (2, 1), (3, 1), (4, 1), (5, 1)] : List (Nat × Nat))[i]?) ({ x with open_ := v } : GBatchBase).enc.toArray rest := by
  have h := fill_seg [(0, 2), (2, 1), (3, 1), (4, 1), (5, 1)] 4 5 1 rfl (([] : List Value) ++ (x.conf.enc ++ ([(.int .i64 x.epoch)] ++ ([(.int .u64 x.last)] ++ ([(.map x.logged)]))))) ([(.map x.open_)]) (([] : List Value)) ([(.map v)]) (.map v) rest (rfl) (by simp [GConf.enc_len]) (by simp [GConf.enc_len]) (by simp [GConf.enc_len])
  have e1 : x.enc = (([] : List Value) ++ (x.conf.enc ++ ([(.int .i64 x.epoch)] ++ ([(.int .u64 x.last)] ++ ([(.map x.logged)]))))) ++ ([(.map x.open_)] ++ (([] : List Value))) := by simp [GBatchBase.enc]
  have e2 : ({ x with open_ := v } : GBatchBase).enc = (([] : List Value) ++ (x.conf.enc ++ ([(.int .i64 x.epoch)] ++ ([(.int .u64 x.last)] ++ ([(.map x.logged)]))))) ++ ([(.map v)] ++ (([] : List Value))) := by simp [GBatchBase.enc]
  rw [e1, e2]; exact h
@[go_sem ↓ high] theorem xd_GBatchBase (ρ : Operand → Value) (dst : Option Tmp) (ps : Array (Nat × Operand)) (ty : TypeId) (pos : String) (after : Array Edge) (guard : Option (Nat × Bool)) : execOp ρ { dst, op := .build 113 ps, type := ty, pos, after, guard } = (do pure (.value (← gBuild 113 (ps.map fun (i, x) => (i, ρ x))))) := ex_build ..
@[go_sem ↓ high] theorem bd113_0 (w : World) (v0 : GConf) (v1 : Int) (v2 : Int) (v3 : Option Nat) (v4 : Option Nat) : (gBuild 113 #[(0, (v0.val)), (1, (.int .i64 v1)), (2, (.int .u64 v2)), (3, (.map v3)), (4, (.map v4))]).run Try.prog w = .ok (GBatchBase.val ⟨v0, v1, v2, v3, v4⟩) w := by
  rw [GBatchBase.val_eq]
  refine run_gBuild_of uu113 zr113 pl113 ?_ w
  show Instr.fill _ (GBatchBase.enc default).toArray [(0, (v0.val)), (1, (.int .i64 v1)), (2, (.int .u64 v2)), (3, (.map v3)), (4, (.map v4))] = _
  rw [fs113_0, fs113_1, fs113_2, fs113_3, fs113_4]; rfl
/-! ### []ledger.place -/
theorem ei162 : ElemI Try.prog 162 169 GLedgerPlace 88 := ⟨by kernel_rfl, by kernel_rfl⟩
@[go_sem ↓ high] theorem xg_162 (ρ : Operand → Value) (dst : Option Tmp) (ps : Array (Nat × Operand)) (ty : TypeId) (pos : String) (after : Array Edge) (guard : Option (Nat × Bool)) : execOp ρ { dst, op := .buildSlice 162 1 ps, type := ty, pos, after, guard } = (do pure (.value (← gBuildSlice 162 1 (ps.map fun (i, x) => (i, ρ x))))) := ex_buildSlice ..
@[go_sem ↓ high] theorem bs_162 (w : World) (x : GLedgerPlace) : (gBuildSlice 162 1 #[(0, GLedgerPlace.val x)]).run Try.prog w = .ok (.slice (some ⟨w.heap.size, 0, none⟩) 1 1) (w.alloc (.cells (GLedgerPlace.enc x).toArray 169)) := by
  rw [GLedgerPlace.val_eq]; exact run_buildSlice_one ei162 (by decide) x w
/-! ### []uint8 -/
theorem ei79 : ElemI Try.prog 79 5 U8 1 := ⟨by kernel_rfl, by kernel_rfl⟩
/-! ### []api.Stamp -/
theorem ei87 : ElemI Try.prog 87 86 GStamp 80 := ⟨by kernel_rfl, by kernel_rfl⟩
@[go_sem ↓ high] theorem xg_87 (ρ : Operand → Value) (dst : Option Tmp) (ps : Array (Nat × Operand)) (ty : TypeId) (pos : String) (after : Array Edge) (guard : Option (Nat × Bool)) : execOp ρ { dst, op := .buildSlice 87 1 ps, type := ty, pos, after, guard } = (do pure (.value (← gBuildSlice 87 1 (ps.map fun (i, x) => (i, ρ x))))) := ex_buildSlice ..
@[go_sem ↓ high] theorem bs_87 (w : World) (x : GStamp) : (gBuildSlice 87 1 #[(0, GStamp.val x)]).run Try.prog w = .ok (.slice (some ⟨w.heap.size, 0, none⟩) 1 1) (w.alloc (.cells (GStamp.enc x).toArray 86)) := by
  rw [GStamp.val_eq]; exact run_buildSlice_one ei87 (by decide) x w
/-! ### []api.Cert -/
theorem ei90 : ElemI Try.prog 90 89 GCert 96 := ⟨by kernel_rfl, by kernel_rfl⟩
@[go_sem ↓ high] theorem xg_90 (ρ : Operand → Value) (dst : Option Tmp) (ps : Array (Nat × Operand)) (ty : TypeId) (pos : String) (after : Array Edge) (guard : Option (Nat × Bool)) : execOp ρ { dst, op := .buildSlice 90 1 ps, type := ty, pos, after, guard } = (do pure (.value (← gBuildSlice 90 1 (ps.map fun (i, x) => (i, ρ x))))) := ex_buildSlice ..
@[go_sem ↓ high] theorem bs_90 (w : World) (x : GCert) : (gBuildSlice 90 1 #[(0, GCert.val x)]).run Try.prog w = .ok (.slice (some ⟨w.heap.size, 0, none⟩) 1 1) (w.alloc (.cells (GCert.enc x).toArray 89)) := by
  rw [GCert.val_eq]; exact run_buildSlice_one ei90 (by decide) x w
/-! ### []api.Promise -/
theorem ei70 : ElemI Try.prog 70 92 GPromise 64 := ⟨by kernel_rfl, by kernel_rfl⟩
@[go_sem ↓ high] theorem xg_70 (ρ : Operand → Value) (dst : Option Tmp) (ps : Array (Nat × Operand)) (ty : TypeId) (pos : String) (after : Array Edge) (guard : Option (Nat × Bool)) : execOp ρ { dst, op := .buildSlice 70 1 ps, type := ty, pos, after, guard } = (do pure (.value (← gBuildSlice 70 1 (ps.map fun (i, x) => (i, ρ x))))) := ex_buildSlice ..
@[go_sem ↓ high] theorem bs_70 (w : World) (x : GPromise) : (gBuildSlice 70 1 #[(0, GPromise.val x)]).run Try.prog w = .ok (.slice (some ⟨w.heap.size, 0, none⟩) 1 1) (w.alloc (.cells (GPromise.enc x).toArray 92)) := by
  rw [GPromise.val_eq]; exact run_buildSlice_one ei70 (by decide) x w
/-! ### []api.Opening -/
theorem ei71 : ElemI Try.prog 71 94 GOpening 64 := ⟨by kernel_rfl, by kernel_rfl⟩
@[go_sem ↓ high] theorem xg_71 (ρ : Operand → Value) (dst : Option Tmp) (ps : Array (Nat × Operand)) (ty : TypeId) (pos : String) (after : Array Edge) (guard : Option (Nat × Bool)) : execOp ρ { dst, op := .buildSlice 71 1 ps, type := ty, pos, after, guard } = (do pure (.value (← gBuildSlice 71 1 (ps.map fun (i, x) => (i, ρ x))))) := ex_buildSlice ..
@[go_sem ↓ high] theorem bs_71 (w : World) (x : GOpening) : (gBuildSlice 71 1 #[(0, GOpening.val x)]).run Try.prog w = .ok (.slice (some ⟨w.heap.size, 0, none⟩) 1 1) (w.alloc (.cells (GOpening.enc x).toArray 94)) := by
  rw [GOpening.val_eq]; exact run_buildSlice_one ei71 (by decide) x w
/-! ### []api.Tomb -/
theorem ei72 : ElemI Try.prog 72 97 GTomb 32 := ⟨by kernel_rfl, by kernel_rfl⟩
@[go_sem ↓ high] theorem xg_72 (ρ : Operand → Value) (dst : Option Tmp) (ps : Array (Nat × Operand)) (ty : TypeId) (pos : String) (after : Array Edge) (guard : Option (Nat × Bool)) : execOp ρ { dst, op := .buildSlice 72 1 ps, type := ty, pos, after, guard } = (do pure (.value (← gBuildSlice 72 1 (ps.map fun (i, x) => (i, ρ x))))) := ex_buildSlice ..
@[go_sem ↓ high] theorem bs_72 (w : World) (x : GTomb) : (gBuildSlice 72 1 #[(0, GTomb.val x)]).run Try.prog w = .ok (.slice (some ⟨w.heap.size, 0, none⟩) 1 1) (w.alloc (.cells (GTomb.enc x).toArray 97)) := by
  rw [GTomb.val_eq]; exact run_buildSlice_one ei72 (by decide) x w

/-! ### map[api.Name]int -/
theorem um161 : Try.prog.underlying 161 = some (.map 25 3) := by kernel_rfl
theorem zv161_3 : zeroT Try.prog 3 = some (VEnc.vv (0 : Int)) := by kernel_rfl
@[go_sem ↓ high] theorem xk_161 (ρ : Operand → Value) (dst : Option Tmp) (x y : Operand) (ok : Bool) (ty : TypeId) (pos : String) (after : Array Edge) (guard : Option (Nat × Bool)) : execOp ρ { dst, op := .lookup 161 x y ok, type := ty, pos, after, guard } = (do pure (.value (← gLookup 161 (ρ x) (ρ y) ok))) := ex_lookup ..
@[go_sem ↓ high] theorem xu_161 (ρ : Operand → Value) (dst : Option Tmp) (x y z : Operand) (ty : TypeId) (pos : String) (after : Array Edge) (guard : Option (Nat × Bool)) : execOp ρ { dst, op := .mapUpdate 161 x y z, type := ty, pos, after, guard } = (do gMapUpdate 161 (ρ x) (ρ y) (ρ z); pure .skip) := ex_mapUpdate ..
@[go_sem ↓ high] theorem lk_161 (w : World) (r : Nat) (k : GName) : (gLookup 161 (.map (some r)) (GName.val k) false).run Try.prog w = ofOpt ((mapAt GName Int w r).map fun m => (.int .i64 ((mget m k).getD 0))) w (noLookup Try.prog 161 (.map (some r)) (GName.val k) false w) :=
  run_gLookup kl25 um161 zv161_3 w r k
@[go_sem ↓ high] theorem lo_161 (w : World) (r : Nat) (k : GName) : (gLookup 161 (.map (some r)) (GName.val k) true).run Try.prog w = ofOpt ((mapAt GName Int w r).map fun m => .tuple #[(.int .i64 ((mget m k).getD 0)), .bool (mget m k).isSome]) w (noLookup Try.prog 161 (.map (some r)) (GName.val k) true w) :=
  run_gLookup_ok kl25 um161 zv161_3 w r k
@[go_sem ↓ high] theorem ln_161 (w : World) (k : GName) : (gLookup 161 (.map none) (GName.val k) false).run Try.prog w = .ok (.int .i64 (0 : Int)) w :=
  run_gLookup_nil kl25 um161 zv161_3 w k
@[go_sem ↓ high] theorem mu_161 (w : World) (r : Nat) (k : GName) (v : Int) : (gMapUpdate 161 (.map (some r)) (GName.val k) (.int .i64 v)).run Try.prog w = okU ((mapAt GName Int w r).isSome) (mput Try.prog 161 w r k v) (noUpdate Try.prog 161 (.map (some r)) (GName.val k) (.int .i64 v) w) :=
  run_gMapUpdate kl25 um161 w r k v
@[go_sem] theorem sz_mput_161 (w : World) (r : Nat) (k : GName) (v : Int) (h : (mapAt GName Int w r).isSome = true) : (mput Try.prog 161 w r k v).heap.size = w.heap.size := by
  obtain ⟨m, hm⟩ := Option.isSome_iff_exists.1 h; exact mput_size kl25 um161 hm k v
theorem kl3 : KeyLaws Try.prog 3 Int := keyLaws_int uk3
instance : VEnc GEntry := ⟨GEntry.val, fun a b h => by rw [GEntry.val_eq, GEntry.val_eq] at h; injection h with h; exact Enc.inj _ _ (by simpa using congrArg Array.toList h)⟩

/-! ### map[int]api.Entry -/
theorem um111 : Try.prog.underlying 111 = some (.map 3 30) := by kernel_rfl
theorem zv111_30 : zeroT Try.prog 30 = some (VEnc.vv (default : GEntry)) := by kernel_rfl
@[go_sem ↓ high] theorem xk_111 (ρ : Operand → Value) (dst : Option Tmp) (x y : Operand) (ok : Bool) (ty : TypeId) (pos : String) (after : Array Edge) (guard : Option (Nat × Bool)) : execOp ρ { dst, op := .lookup 111 x y ok, type := ty, pos, after, guard } = (do pure (.value (← gLookup 111 (ρ x) (ρ y) ok))) := ex_lookup ..
@[go_sem ↓ high] theorem xu_111 (ρ : Operand → Value) (dst : Option Tmp) (x y z : Operand) (ty : TypeId) (pos : String) (after : Array Edge) (guard : Option (Nat × Bool)) : execOp ρ { dst, op := .mapUpdate 111 x y z, type := ty, pos, after, guard } = (do gMapUpdate 111 (ρ x) (ρ y) (ρ z); pure .skip) := ex_mapUpdate ..
@[go_sem ↓ high] theorem lk_111 (w : World) (r : Nat) (k : Int) : (gLookup 111 (.map (some r)) (.int .i64 k) false).run Try.prog w = ofOpt ((mapAt Int GEntry w r).map fun m => (GEntry.val ((mget m k).getD default))) w (noLookup Try.prog 111 (.map (some r)) (.int .i64 k) false w) :=
  run_gLookup kl3 um111 zv111_30 w r k
@[go_sem ↓ high] theorem lo_111 (w : World) (r : Nat) (k : Int) : (gLookup 111 (.map (some r)) (.int .i64 k) true).run Try.prog w = ofOpt ((mapAt Int GEntry w r).map fun m => .tuple #[(GEntry.val ((mget m k).getD default)), .bool (mget m k).isSome]) w (noLookup Try.prog 111 (.map (some r)) (.int .i64 k) true w) :=
  run_gLookup_ok kl3 um111 zv111_30 w r k
@[go_sem ↓ high] theorem ln_111 (w : World) (k : Int) : (gLookup 111 (.map none) (.int .i64 k) false).run Try.prog w = .ok (GEntry.val (default : GEntry)) w :=
  run_gLookup_nil kl3 um111 zv111_30 w k
@[go_sem ↓ high] theorem mu_111 (w : World) (r : Nat) (k : Int) (v : GEntry) : (gMapUpdate 111 (.map (some r)) (.int .i64 k) (GEntry.val v)).run Try.prog w = okU ((mapAt Int GEntry w r).isSome) (mput Try.prog 111 w r k v) (noUpdate Try.prog 111 (.map (some r)) (.int .i64 k) (GEntry.val v) w) :=
  run_gMapUpdate kl3 um111 w r k v
@[go_sem] theorem sz_mput_111 (w : World) (r : Nat) (k : Int) (v : GEntry) (h : (mapAt Int GEntry w r).isSome = true) : (mput Try.prog 111 w r k v).heap.size = w.heap.size := by
  obtain ⟨m, hm⟩ := Option.isSome_iff_exists.1 h; exact mput_size kl3 um111 hm k v

/-! ### map[api.Name]api.Entry -/
theorem um202 : Try.prog.underlying 202 = some (.map 25 30) := by kernel_rfl
theorem zv202_30 : zeroT Try.prog 30 = some (VEnc.vv (default : GEntry)) := by kernel_rfl
@[go_sem ↓ high] theorem xk_202 (ρ : Operand → Value) (dst : Option Tmp) (x y : Operand) (ok : Bool) (ty : TypeId) (pos : String) (after : Array Edge) (guard : Option (Nat × Bool)) : execOp ρ { dst, op := .lookup 202 x y ok, type := ty, pos, after, guard } = (do pure (.value (← gLookup 202 (ρ x) (ρ y) ok))) := ex_lookup ..
@[go_sem ↓ high] theorem xu_202 (ρ : Operand → Value) (dst : Option Tmp) (x y z : Operand) (ty : TypeId) (pos : String) (after : Array Edge) (guard : Option (Nat × Bool)) : execOp ρ { dst, op := .mapUpdate 202 x y z, type := ty, pos, after, guard } = (do gMapUpdate 202 (ρ x) (ρ y) (ρ z); pure .skip) := ex_mapUpdate ..
@[go_sem ↓ high] theorem lk_202 (w : World) (r : Nat) (k : GName) : (gLookup 202 (.map (some r)) (GName.val k) false).run Try.prog w = ofOpt ((mapAt GName GEntry w r).map fun m => (GEntry.val ((mget m k).getD default))) w (noLookup Try.prog 202 (.map (some r)) (GName.val k) false w) :=
  run_gLookup kl25 um202 zv202_30 w r k
@[go_sem ↓ high] theorem lo_202 (w : World) (r : Nat) (k : GName) : (gLookup 202 (.map (some r)) (GName.val k) true).run Try.prog w = ofOpt ((mapAt GName GEntry w r).map fun m => .tuple #[(GEntry.val ((mget m k).getD default)), .bool (mget m k).isSome]) w (noLookup Try.prog 202 (.map (some r)) (GName.val k) true w) :=
  run_gLookup_ok kl25 um202 zv202_30 w r k
@[go_sem ↓ high] theorem ln_202 (w : World) (k : GName) : (gLookup 202 (.map none) (GName.val k) false).run Try.prog w = .ok (GEntry.val (default : GEntry)) w :=
  run_gLookup_nil kl25 um202 zv202_30 w k
@[go_sem ↓ high] theorem mu_202 (w : World) (r : Nat) (k : GName) (v : GEntry) : (gMapUpdate 202 (.map (some r)) (GName.val k) (GEntry.val v)).run Try.prog w = okU ((mapAt GName GEntry w r).isSome) (mput Try.prog 202 w r k v) (noUpdate Try.prog 202 (.map (some r)) (GName.val k) (GEntry.val v) w) :=
  run_gMapUpdate kl25 um202 w r k v
@[go_sem] theorem sz_mput_202 (w : World) (r : Nat) (k : GName) (v : GEntry) (h : (mapAt GName GEntry w r).isSome = true) : (mput Try.prog 202 w r k v).heap.size = w.heap.size := by
  obtain ⟨m, hm⟩ := Option.isSome_iff_exists.1 h; exact mput_size kl25 um202 hm k v

end Go.Proofs.Yteockodnfempfaa
