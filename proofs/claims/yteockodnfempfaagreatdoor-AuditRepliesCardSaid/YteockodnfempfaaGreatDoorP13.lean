/- How an auction of the document's ends. Conditions: those named in each theorem. -/
import Derived.Test.YteockodnfempfaaGreatDoorP11
import Derived.Test.YteockodnfempfaaGreatDoorP1
import Derived.Test.YteockodnfempfaaGreatDoorP6
import Derived.Laws.Strings
import Derived.Test.YteockodnfempfaaGreatDoorP7
import Derived.Test.YteockodnfempfaaGreatDoorP9
/- The struct types of this seat as Lean types, with the runs of single operations over them. Conditions: those named in each theorem. -/
namespace Go.Proofs.YteockodnfempfaaGreatDoor
open Go Go.RowKit Go.Gv
set_option linter.unusedSimpArgs false

theorem na81 : aggT Tryz.prog 81 = false := by kernel_rfl
theorem us81 : (Tryz.prog.underlying 81).isSome = true := by kernel_rfl
theorem na82 : aggT Tryz.prog 82 = false := by kernel_rfl
theorem us82 : (Tryz.prog.underlying 82).isSome = true := by kernel_rfl
theorem na85 : aggT Tryz.prog 85 = false := by kernel_rfl
theorem us85 : (Tryz.prog.underlying 85).isSome = true := by kernel_rfl
theorem na86 : aggT Tryz.prog 86 = false := by kernel_rfl
theorem us86 : (Tryz.prog.underlying 86).isSome = true := by kernel_rfl
theorem na135 : aggT Tryz.prog 135 = false := by kernel_rfl
theorem us135 : (Tryz.prog.underlying 135).isSome = true := by kernel_rfl

/-! ### gavel/gavelref15.House -/
structure GRef15House where
  l : Hdr
deriving DecidableEq
instance : Inhabited GRef15House := ⟨⟨default⟩⟩
def GRef15House.enc (x : GRef15House) : List Value := [(x.l.val)]
theorem GRef15House.enc_len (x : GRef15House) : x.enc.length = 1 := by simp [GRef15House.enc]
theorem GRef15House.enc_one (x : GRef15House) : ∀ u ∈ x.enc, u.oneCell' = true := by
  intro u hu
  simp only [GRef15House.enc, List.mem_append, List.mem_singleton] at hu
  subst hu; rfl
theorem GRef15House.enc_inj (x y : GRef15House) (h : x.enc = y.enc) : x = y := by
  obtain ⟨a0⟩ := x
  obtain ⟨b0⟩ := y
  simp only [GRef15House.enc] at h
  have e0 : a0 = b0 := Enc.inj (α := Hdr) _ _ h
  rw [e0]
instance : Enc GRef15House where
  n := 1
  enc := GRef15House.enc
  pos := by omega
  len := GRef15House.enc_len
  one := GRef15House.enc_one
  inj := GRef15House.enc_inj
@[go_sem] theorem GRef15House.n_eq : Enc.n GRef15House = 1 := rfl
@[irreducible] def GRef15House.val (x : GRef15House) : Value := .agg x.enc.toArray
theorem GRef15House.val_eq (x : GRef15House) : GRef15House.val x = .agg (Enc.enc x).toArray := by unfold GRef15House.val; rfl
theorem GRef15House.ext_all (x y : GRef15House) : x = y ↔ x.l = y.l := by
  constructor
  · intro h; cases h; simp
  · intro h; cases x; cases y; simp_all
theorem uu84 : Tryz.prog.underlying 84 = some (.struct (Tryz.prog.fieldsOf 84)) := by kernel_rfl
theorem st84 : Tryz.prog.stoodInHeld 84 = false := by kernel_rfl
theorem fl84 : fieldTO Tryz.prog 84 = [(82, 0)] := by kernel_rfl
theorem nb84 : noBlank Tryz.prog 84 = true := by kernel_rfl
@[go_sem ↓ high] theorem xl_GRef15House (ρ : Operand → Value) (dst : Option Tmp) (x : Operand) (ty : TypeId) (pos : String) (after : Array Edge) (guard : Option (Nat × Bool)) : execOp ρ { dst, op := .load 84 x, type := ty, pos, after, guard } = (do pure (.value (← gLoad 84 (ρ x)))) := ex_load ..
@[go_sem ↓ high] theorem xs_GRef15House (ρ : Operand → Value) (dst : Option Tmp) (x y : Operand) (ty : TypeId) (pos : String) (after : Array Edge) (guard : Option (Nat × Bool)) : execOp ρ { dst, op := .store 84 x y, type := ty, pos, after, guard } = (do gStore 84 (ρ x) (ρ y); pure .skip) := ex_store ..
@[go_sem ↓ high] theorem xb_GRef15House (ρ : Operand → Value) (dst : Option Tmp) (x : Operand) (ty : TypeId) (pos : String) (after : Array Edge) (guard : Option (Nat × Bool)) : execOp ρ { dst, op := .box 84 x, type := ty, pos, after, guard } = (do pure (.value (← gBox 84 (ρ x)))) := ex_box ..
@[go_sem ↓ high] theorem xa_GRef15House (ρ : Operand → Value) (dst : Option Tmp) (ty : TypeId) (pos : String) (after : Array Edge) (guard : Option (Nat × Bool)) : execOp ρ { dst, op := .alloc 84, type := ty, pos, after, guard } = (do pure (.value (← gAlloc 84))) := ex_alloc ..
theorem ag84 : aggT Tryz.prog 84 = true := by kernel_rfl
theorem sz84 : sizeT Tryz.prog 84 = 1 := by kernel_rfl
section
variable (w : World)
@[go_sem ↓ high] theorem ld_GRef15House (a : Addr) : (gLoad 84 (.pointer (some a))).run Tryz.prog w = ofOpt ((get? GRef15House w a).map GRef15House.val) w (noLoad Tryz.prog 84 a w) := by
  unfold gLoad; exact run_loadAt_opt ag84 sz84 GRef15House.val GRef15House.val_eq
@[go_sem ↓ high] theorem st_GRef15House (a : Addr) (x : GRef15House) : (gStore 84 (.pointer (some a)) (GRef15House.val x)).run Tryz.prog w = okU' ((get? GRef15House w a).isSome && blkFree w a.block) (World.putCells w a (GRef15House.enc x)) (noStore Tryz.prog 84 (.pointer (some a)) (GRef15House.val x) w) := run_gStore_any sz84 GRef15House.val GRef15House.val_eq w a x
@[go_sem ↓ high] theorem bx_GRef15House (x : GRef15House) : (gBox 84 (GRef15House.val x)).run Tryz.prog w = .ok (.pointer (some ⟨w.heap.size, 0, none⟩)) (w.alloc (.cells (GRef15House.enc x).toArray 84)) := by
  rw [GRef15House.val_eq]; exact run_gBox _ w
end
theorem lk84_0 (x : GRef15House) : x.enc[0]? = some (x.l.val) := by
  simp [GRef15House.enc, List.getElem?_append]
theorem pt84_0 (w : World) (x : GRef15House) : (part 82 x.enc.toArray 0).run Tryz.prog w = .ok (x.l.val) w := run_part_one na82 us82 (lk84_0 x)
@[go_sem ↓ high] theorem fd84_0 (w : World) (x : GRef15House) : (gField 84 (GRef15House.val x) 0).run Tryz.prog w = .ok (x.l.val) w := by
  rw [GRef15House.val_eq]
  exact run_gField w uu84 (by rw [fl84]; rfl) (pt84_0 w x)
@[go_sem ↓ high] theorem xf_GRef15House (ρ : Operand → Value) (dst : Option Tmp) (x : Operand) (i : Nat) (ty : TypeId) (pos : String) (after : Array Edge) (guard : Option (Nat × Bool)) : execOp ρ { dst, op := .field 84 x i, type := ty, pos, after, guard } = (do pure (.value (← gField 84 (ρ x) i))) := ex_field ..
theorem zr84 : zeroT Tryz.prog 84 = some (.agg (GRef15House.enc default).toArray) := by kernel_rfl
@[go_sem ↓ high] theorem al_GRef15House (w : World) : (gAlloc 84).run Tryz.prog w = .ok (.pointer (some ⟨w.heap.size, 0, none⟩)) (w.alloc (.cells (GRef15House.enc default).toArray 84)) := run_zero_alloc zr84 w
@[go_sem] theorem pc_GRef15House (w : World) (n : Nat) (x z : GRef15House) (hn : n = w.heap.size) : World.putCells (w.alloc (.cells (GRef15House.enc z).toArray 84)) ⟨n, 0, none⟩ (GRef15House.enc x) = w.alloc (.cells (GRef15House.enc x).toArray 84) := putCells_top x z hn
theorem GRef15House.at_l {w : World} {a : Addr} {x : GRef15House} (h : get? GRef15House w a = some x) : w.cell? (a.add 0) = some (x.l.val) := (get?_iff.1 h) _ _ (lk84_0 x)
@[go_sem] theorem nl84_0 (x : GRef15House) : x.enc[0]? = some (x.l.val) := by
  have h := (GRef15House.at_l (get?_new (w := (default : World)) 84 x))
  simp only [Addr.add_lit, Nat.zero_add, Nat.reduceAdd, World.cell?_alloc_new, List.getElem?_toArray] at h
  exact h
@[go_sem] theorem nw84 (w : World) (n : Nat) (x : GRef15House) (hn : n = w.heap.size) : get? GRef15House (w.alloc (.cells (GRef15House.enc x).toArray 84)) ⟨n, 0, none⟩ = some x := by
  subst hn; exact get?_new 84 x

/-! ### gavel/gavelref15.Result -/
structure GRef15Result where
  name : ByteArray
  winner : Int
  price : Int
deriving DecidableEq
instance : Inhabited GRef15Result := ⟨⟨ByteArray.empty, 0, 0⟩⟩
def GRef15Result.enc (x : GRef15Result) : List Value := [(.string x.name)] ++ ([(.int .i64 x.winner)] ++ ([(.int .i64 x.price)]))
theorem GRef15Result.enc_len (x : GRef15Result) : x.enc.length = 3 := by simp [GRef15Result.enc]
theorem GRef15Result.enc_one (x : GRef15Result) : ∀ u ∈ x.enc, u.oneCell' = true := by
  intro u hu
  simp only [GRef15Result.enc, List.mem_append, List.mem_singleton] at hu
  rcases hu with hu | hu | hu
  · subst hu; rfl
  · subst hu; rfl
  · subst hu; rfl
theorem GRef15Result.enc_inj (x y : GRef15Result) (h : x.enc = y.enc) : x = y := by
  obtain ⟨a0, a1, a2⟩ := x
  obtain ⟨b0, b1, b2⟩ := y
  simp only [GRef15Result.enc] at h
  obtain ⟨p0, q0⟩ := List.append_inj h (rfl)
  have e0 : a0 = b0 := by have := List.head_eq_of_cons_eq p0; injection this
  obtain ⟨p1, q1⟩ := List.append_inj q0 (rfl)
  have e1 : a1 = b1 := by have := List.head_eq_of_cons_eq p1; injection this
  have e2 : a2 = b2 := by have := List.head_eq_of_cons_eq q1; injection this
  rw [e0, e1, e2]
instance : Enc GRef15Result where
  n := 3
  enc := GRef15Result.enc
  pos := by omega
  len := GRef15Result.enc_len
  one := GRef15Result.enc_one
  inj := GRef15Result.enc_inj
@[go_sem] theorem GRef15Result.n_eq : Enc.n GRef15Result = 3 := rfl
@[irreducible] def GRef15Result.val (x : GRef15Result) : Value := .agg x.enc.toArray
theorem GRef15Result.val_eq (x : GRef15Result) : GRef15Result.val x = .agg (Enc.enc x).toArray := by unfold GRef15Result.val; rfl
theorem GRef15Result.ext_all (x y : GRef15Result) : x = y ↔ x.name = y.name ∧ x.winner = y.winner ∧ x.price = y.price := by
  constructor
  · intro h; cases h; simp
  · intro h; cases x; cases y; simp_all
theorem uu94 : Tryz.prog.underlying 94 = some (.struct (Tryz.prog.fieldsOf 94)) := by kernel_rfl
theorem st94 : Tryz.prog.stoodInHeld 94 = false := by kernel_rfl
theorem fl94 : fieldTO Tryz.prog 94 = [(9, 0), (3, 1), (3, 2)] := by kernel_rfl
theorem nb94 : noBlank Tryz.prog 94 = true := by kernel_rfl
@[go_sem ↓ high] theorem xl_GRef15Result (ρ : Operand → Value) (dst : Option Tmp) (x : Operand) (ty : TypeId) (pos : String) (after : Array Edge) (guard : Option (Nat × Bool)) : execOp ρ { dst, op := .load 94 x, type := ty, pos, after, guard } = (do pure (.value (← gLoad 94 (ρ x)))) := ex_load ..
@[go_sem ↓ high] theorem xs_GRef15Result (ρ : Operand → Value) (dst : Option Tmp) (x y : Operand) (ty : TypeId) (pos : String) (after : Array Edge) (guard : Option (Nat × Bool)) : execOp ρ { dst, op := .store 94 x y, type := ty, pos, after, guard } = (do gStore 94 (ρ x) (ρ y); pure .skip) := ex_store ..
@[go_sem ↓ high] theorem xb_GRef15Result (ρ : Operand → Value) (dst : Option Tmp) (x : Operand) (ty : TypeId) (pos : String) (after : Array Edge) (guard : Option (Nat × Bool)) : execOp ρ { dst, op := .box 94 x, type := ty, pos, after, guard } = (do pure (.value (← gBox 94 (ρ x)))) := ex_box ..
@[go_sem ↓ high] theorem xa_GRef15Result (ρ : Operand → Value) (dst : Option Tmp) (ty : TypeId) (pos : String) (after : Array Edge) (guard : Option (Nat × Bool)) : execOp ρ { dst, op := .alloc 94, type := ty, pos, after, guard } = (do pure (.value (← gAlloc 94))) := ex_alloc ..
theorem ag94 : aggT Tryz.prog 94 = true := by kernel_rfl
theorem sz94 : sizeT Tryz.prog 94 = 3 := by kernel_rfl
section
variable (w : World)
@[go_sem ↓ high] theorem ld_GRef15Result (a : Addr) : (gLoad 94 (.pointer (some a))).run Tryz.prog w = ofOpt ((get? GRef15Result w a).map GRef15Result.val) w (noLoad Tryz.prog 94 a w) := by
  unfold gLoad; exact run_loadAt_opt ag94 sz94 GRef15Result.val GRef15Result.val_eq
@[go_sem ↓ high] theorem st_GRef15Result (a : Addr) (x : GRef15Result) : (gStore 94 (.pointer (some a)) (GRef15Result.val x)).run Tryz.prog w = okU' ((get? GRef15Result w a).isSome && blkFree w a.block) (World.putCells w a (GRef15Result.enc x)) (noStore Tryz.prog 94 (.pointer (some a)) (GRef15Result.val x) w) := run_gStore_any sz94 GRef15Result.val GRef15Result.val_eq w a x
@[go_sem ↓ high] theorem bx_GRef15Result (x : GRef15Result) : (gBox 94 (GRef15Result.val x)).run Tryz.prog w = .ok (.pointer (some ⟨w.heap.size, 0, none⟩)) (w.alloc (.cells (GRef15Result.enc x).toArray 94)) := by
  rw [GRef15Result.val_eq]; exact run_gBox _ w
end
theorem lk94_0 (x : GRef15Result) : x.enc[0]? = some (.string x.name) := by
  simp [GRef15Result.enc, List.getElem?_append]
theorem pt94_0 (w : World) (x : GRef15Result) : (part 9 x.enc.toArray 0).run Tryz.prog w = .ok (.string x.name) w := run_part_one na9 us9 (lk94_0 x)
@[go_sem ↓ high] theorem fd94_0 (w : World) (x : GRef15Result) : (gField 94 (GRef15Result.val x) 0).run Tryz.prog w = .ok (.string x.name) w := by
  rw [GRef15Result.val_eq]
  exact run_gField w uu94 (by rw [fl94]; rfl) (pt94_0 w x)
theorem lk94_1 (x : GRef15Result) : x.enc[1]? = some (.int .i64 x.winner) := by
  simp [GRef15Result.enc, List.getElem?_append]
theorem pt94_1 (w : World) (x : GRef15Result) : (part 3 x.enc.toArray 1).run Tryz.prog w = .ok (.int .i64 x.winner) w := run_part_one na3 us3 (lk94_1 x)
@[go_sem ↓ high] theorem fd94_1 (w : World) (x : GRef15Result) : (gField 94 (GRef15Result.val x) 1).run Tryz.prog w = .ok (.int .i64 x.winner) w := by
  rw [GRef15Result.val_eq]
  exact run_gField w uu94 (by rw [fl94]; rfl) (pt94_1 w x)
theorem lk94_2 (x : GRef15Result) : x.enc[2]? = some (.int .i64 x.price) := by
  simp [GRef15Result.enc, List.getElem?_append]
theorem pt94_2 (w : World) (x : GRef15Result) : (part 3 x.enc.toArray 2).run Tryz.prog w = .ok (.int .i64 x.price) w := run_part_one na3 us3 (lk94_2 x)
@[go_sem ↓ high] theorem fd94_2 (w : World) (x : GRef15Result) : (gField 94 (GRef15Result.val x) 2).run Tryz.prog w = .ok (.int .i64 x.price) w := by
  rw [GRef15Result.val_eq]
  exact run_gField w uu94 (by rw [fl94]; rfl) (pt94_2 w x)
@[go_sem ↓ high] theorem xf_GRef15Result (ρ : Operand → Value) (dst : Option Tmp) (x : Operand) (i : Nat) (ty : TypeId) (pos : String) (after : Array Edge) (guard : Option (Nat × Bool)) : execOp ρ { dst, op := .field 94 x i, type := ty, pos, after, guard } = (do pure (.value (← gField 94 (ρ x) i))) := ex_field ..
theorem zr94 : zeroT Tryz.prog 94 = some (.agg (GRef15Result.enc default).toArray) := by kernel_rfl
@[go_sem ↓ high] theorem al_GRef15Result (w : World) : (gAlloc 94).run Tryz.prog w = .ok (.pointer (some ⟨w.heap.size, 0, none⟩)) (w.alloc (.cells (GRef15Result.enc default).toArray 94)) := run_zero_alloc zr94 w
@[go_sem] theorem pc_GRef15Result (w : World) (n : Nat) (x z : GRef15Result) (hn : n = w.heap.size) : World.putCells (w.alloc (.cells (GRef15Result.enc z).toArray 94)) ⟨n, 0, none⟩ (GRef15Result.enc x) = w.alloc (.cells (GRef15Result.enc x).toArray 94) := putCells_top x z hn
theorem GRef15Result.at_name {w : World} {a : Addr} {x : GRef15Result} (h : get? GRef15Result w a = some x) : w.cell? (a.add 0) = some (.string x.name) := (get?_iff.1 h) _ _ (lk94_0 x)
theorem GRef15Result.at_winner {w : World} {a : Addr} {x : GRef15Result} (h : get? GRef15Result w a = some x) : w.cell? (a.add 1) = some (.int .i64 x.winner) := (get?_iff.1 h) _ _ (lk94_1 x)
theorem GRef15Result.at_price {w : World} {a : Addr} {x : GRef15Result} (h : get? GRef15Result w a = some x) : w.cell? (a.add 2) = some (.int .i64 x.price) := (get?_iff.1 h) _ _ (lk94_2 x)
@[go_sem] theorem nl94_0 (x : GRef15Result) : x.enc[0]? = some (.string x.name) := by
  have h := (GRef15Result.at_name (get?_new (w := (default : World)) 94 x))
  simp only [Addr.add_lit, Nat.zero_add, Nat.reduceAdd, World.cell?_alloc_new, List.getElem?_toArray] at h
  exact h
@[go_sem] theorem nl94_1 (x : GRef15Result) : x.enc[1]? = some (.int .i64 x.winner) := by
  have h := (GRef15Result.at_winner (get?_new (w := (default : World)) 94 x))
  simp only [Addr.add_lit, Nat.zero_add, Nat.reduceAdd, World.cell?_alloc_new, List.getElem?_toArray] at h
  exact h
@[go_sem] theorem nl94_2 (x : GRef15Result) : x.enc[2]? = some (.int .i64 x.price) := by
  have h := (GRef15Result.at_price (get?_new (w := (default : World)) 94 x))
  simp only [Addr.add_lit, Nat.zero_add, Nat.reduceAdd, World.cell?_alloc_new, List.getElem?_toArray] at h
  exact h
@[go_sem] theorem nw94 (w : World) (n : Nat) (x : GRef15Result) (hn : n = w.heap.size) : get? GRef15Result (w.alloc (.cells (GRef15Result.enc x).toArray 94)) ⟨n, 0, none⟩ = some x := by
  subst hn; exact get?_new 94 x
theorem pl94 : ((Tryz.prog.fieldsOf 94).toList.mapM fun f => (Tryz.prog.info? f.type).map fun i => (f.offset, i.size)) = some [(0, 1), (1, 1), (2, 1)] := by kernel_rfl
theorem fs94_0 (x : GRef15Result) (v : ByteArray) (rest : List (Nat × Value)) : Instr.fill (fun i => ([(0, 1), (1, 1), (2, 1)] : List (Nat × Nat))[i]?) x.enc.toArray ((0, (.string v)) :: rest) = Instr.fill (fun i => ([(0, 1), (1, 1), (2, 1)] : List (Nat × Nat))[i]?) ({ x with name := v } : GRef15Result).enc.toArray rest := by
  have h := fill_seg [(0, 1), (1, 1), (2, 1)] 0 0 1 rfl (([] : List Value)) ([(.string x.name)]) ([(.int .i64 x.winner)] ++ ([(.int .i64 x.price)] ++ (([] : List Value)))) ([(.string v)]) (.string v) rest (rfl) (by simp) (by simp) (by simp)
  have e1 : x.enc = (([] : List Value)) ++ ([(.string x.name)] ++ ([(.int .i64 x.winner)] ++ ([(.int .i64 x.price)] ++ (([] : List Value))))) := by simp [GRef15Result.enc]
  have e2 : ({ x with name := v } : GRef15Result).enc = (([] : List Value)) ++ ([(.string v)] ++ ([(.int .i64 x.winner)] ++ ([(.int .i64 x.price)] ++ (([] : List Value))))) := by simp [GRef15Result.enc]
  rw [e1, e2]; exact h
theorem fs94_1 (x : GRef15Result) (v : Int) (rest : List (Nat × Value)) : Instr.fill (fun i => ([(0, 1), (1, 1), (2, 1)] : List (Nat × Nat))[i]?) x.enc.toArray ((1, (.int .i64 v)) :: rest) = Instr.fill (fun i => ([(0, 1), (1, 1), (2, 1)] : List (Nat × Nat))[i]?) ({ x with winner := v } : GRef15Result).enc.toArray rest := by
  have h := fill_seg [(0, 1), (1, 1), (2, 1)] 1 1 1 rfl (([] : List Value) ++ ([(.string x.name)])) ([(.int .i64 x.winner)]) ([(.int .i64 x.price)] ++ (([] : List Value))) ([(.int .i64 v)]) (.int .i64 v) rest (rfl) (by simp) (by simp) (by simp)
  have e1 : x.enc = (([] : List Value) ++ ([(.string x.name)])) ++ ([(.int .i64 x.winner)] ++ ([(.int .i64 x.price)] ++ (([] : List Value)))) := by simp [GRef15Result.enc]
  have e2 : ({ x with winner := v } : GRef15Result).enc = (([] : List Value) ++ ([(.string x.name)])) ++ ([(.int .i64 v)] ++ ([(.int .i64 x.price)] ++ (([] : List Value)))) := by simp [GRef15Result.enc]
  rw [e1, e2]; exact h
@[go_sem ↓ high] theorem xd_GRef15Result (ρ : Operand → Value) (dst : Option Tmp) (ps : Array (Nat × Operand)) (ty : TypeId) (pos : String) (after : Array Edge) (guard : Option (Nat × Bool)) : execOp ρ { dst, op := .build 94 ps, type := ty, pos, after, guard } = (do pure (.value (← gBuild 94 (ps.map fun (i, x) => (i, ρ x))))) := ex_build ..
@[go_sem ↓ high] theorem bd94_0 (w : World) (v0 : ByteArray) (v1 : Int) : (gBuild 94 #[(0, (.string v0)), (1, (.int .i64 v1))]).run Tryz.prog w = .ok (GRef15Result.val ⟨v0, v1, 0⟩) w := by
  rw [GRef15Result.val_eq]
  refine run_gBuild_of uu94 zr94 pl94 ?_ w
  show Instr.fill _ (GRef15Result.enc default).toArray [(0, (.string v0)), (1, (.int .i64 v1))] = _
  rw [fs94_0, fs94_1]; rfl
theorem eq_GRef15Result (w : World) (d : Nat) (x y : GRef15Result) : (Op.equalIn (d + 2) 94 (GRef15Result.val x) (GRef15Result.val y)).run Tryz.prog w = .ok (decide (x = y)) w := by
  have q0 : ∀ a b, (Op.equalIn (d + 1) 9 (.string a) (.string b)).run Tryz.prog w = .ok (decide (a = b)) w := fun a b => by rw [run_equalIn_string w (d + 0) 9 a b uk9, bytes_beq]
  have q1 : ∀ a b, (Op.equalIn (d + 1) 3 (.int .i64 a) (.int .i64 b)).run Tryz.prog w = .ok (decide (a = b)) w := fun a b => by rw [run_equalIn_int w (d + 0) 3 .i64 .i64 a b uk3]; congr 1
  have q2 : ∀ a b, (Op.equalIn (d + 1) 3 (.int .i64 a) (.int .i64 b)).run Tryz.prog w = .ok (decide (a = b)) w := fun a b => by rw [run_equalIn_int w (d + 0) 3 .i64 .i64 a b uk3]; congr 1
  have h := run_equalIn_fields (d + 1) x.enc.toArray y.enc.toArray w uu94 st94 nb94
  rw [fl94] at h
  unfold GRef15Result.val
  refine h.trans ?_
  clear h
  simp only [eqFs, Sem.run_bind, pt94_0, pt94_1, pt94_2, q0, q1, q2, Result.andThen_ok, Sem.run_ite, Sem.run_pure]
  have he : decide (x = y) = (decide (x.name = y.name) && (decide (x.winner = y.winner) && (decide (x.price = y.price)))) := by
    rw [Bool.eq_iff_iff]; simp only [Bool.and_eq_true, decide_eq_true_eq]; exact GRef15Result.ext_all x y
  rw [he]
  generalize decide (x.name = y.name) = c0; generalize decide (x.winner = y.winner) = c1; generalize decide (x.price = y.price) = c2
  cases c0 <;> cases c1 <;> cases c2 <;> simp
@[go_sem ↓ high] theorem xq_GRef15Result (ρ : Operand → Value) (dst : Option Tmp) (x y : Operand) (ty yt : TypeId) (pos : String) (after : Array Edge) (guard : Option (Nat × Bool)) : execOp ρ { dst, op := .binOp .eql 94 x y yt, type := ty, pos, after, guard } = (do pure (.value (← gBin .eql 94 x y (ρ x) (ρ y)))) := ex_eql ..
@[go_sem ↓ high] theorem xn_GRef15Result (ρ : Operand → Value) (dst : Option Tmp) (x y : Operand) (ty yt : TypeId) (pos : String) (after : Array Edge) (guard : Option (Nat × Bool)) : execOp ρ { dst, op := .binOp .neq 94 x y yt, type := ty, pos, after, guard } = (do pure (.value (← gBin .neq 94 x y (ρ x) (ρ y)))) := ex_neq ..
theorem eg_GRef15Result : Tryz.prog.eqGuardType Tryz.prog.depth 94 = false := by kernel_rfl
@[go_sem ↓ high] theorem eql_GRef15Result (w : World) (ox oy : Operand) (x y : GRef15Result) : (gBin .eql 94 ox oy (GRef15Result.val x) (GRef15Result.val y)).run Tryz.prog w = .ok (.bool (decide (x = y))) w := by
  have h2 := eq_GRef15Result w 9998 x y
  rw [GRef15Result.val_eq, GRef15Result.val_eq] at h2 ⊢
  have h := run_eqGuard_agg (P := Tryz.prog) w .eql 94 ox oy (Enc.enc x).toArray (Enc.enc y).toArray eg_GRef15Result
  unfold gBin
  simp only [Sem.run_bind, h, Result.andThen_ok, run_eql_struct, h2]
@[go_sem ↓ high] theorem neq_GRef15Result (w : World) (ox oy : Operand) (x y : GRef15Result) : (gBin .neq 94 ox oy (GRef15Result.val x) (GRef15Result.val y)).run Tryz.prog w = .ok (.bool (!decide (x = y))) w := by
  have h2 := eq_GRef15Result w 9998 x y
  rw [GRef15Result.val_eq, GRef15Result.val_eq] at h2 ⊢
  have h := run_eqGuard_agg (P := Tryz.prog) w .neq 94 ox oy (Enc.enc x).toArray (Enc.enc y).toArray eg_GRef15Result
  unfold gBin
  simp only [Sem.run_bind, h, Result.andThen_ok, run_neq_struct, h2]

/-! ### gavel/gavelref15.sale -/
structure GRef15Sale where
  name : ByteArray
  vickrey : Bool
  reserve : Int
  close : Int
  bids : Hdr
  settled : Bool
  r : GRef15Result
deriving DecidableEq
instance : Inhabited GRef15Sale := ⟨⟨ByteArray.empty, false, 0, 0, default, false, default⟩⟩
def GRef15Sale.enc (x : GRef15Sale) : List Value := [(.string x.name)] ++ ([(.bool x.vickrey)] ++ ([(.int .i64 x.reserve)] ++ ([(.int .u64 x.close)] ++ ([(x.bids.val)] ++ ([(.bool x.settled)] ++ (x.r.enc))))))
theorem GRef15Sale.enc_len (x : GRef15Sale) : x.enc.length = 9 := by simp [GRef15Sale.enc, GRef15Result.enc_len]
theorem GRef15Sale.enc_one (x : GRef15Sale) : ∀ u ∈ x.enc, u.oneCell' = true := by
  intro u hu
  simp only [GRef15Sale.enc, List.mem_append, List.mem_singleton] at hu
  rcases hu with hu | hu | hu | hu | hu | hu | hu
  · subst hu; rfl
  · subst hu; rfl
  · subst hu; rfl
  · subst hu; rfl
  · subst hu; rfl
  · subst hu; rfl
  · exact Enc.one (α := GRef15Result) _ _ hu
theorem GRef15Sale.enc_inj (x y : GRef15Sale) (h : x.enc = y.enc) : x = y := by
  obtain ⟨a0, a1, a2, a3, a4, a5, a6⟩ := x
  obtain ⟨b0, b1, b2, b3, b4, b5, b6⟩ := y
  simp only [GRef15Sale.enc] at h
  obtain ⟨p0, q0⟩ := List.append_inj h (rfl)
  have e0 : a0 = b0 := by have := List.head_eq_of_cons_eq p0; injection this
  obtain ⟨p1, q1⟩ := List.append_inj q0 (rfl)
  have e1 : a1 = b1 := by have := List.head_eq_of_cons_eq p1; injection this
  obtain ⟨p2, q2⟩ := List.append_inj q1 (rfl)
  have e2 : a2 = b2 := by have := List.head_eq_of_cons_eq p2; injection this
  obtain ⟨p3, q3⟩ := List.append_inj q2 (rfl)
  have e3 : a3 = b3 := by have := List.head_eq_of_cons_eq p3; injection this
  obtain ⟨p4, q4⟩ := List.append_inj q3 (rfl)
  have e4 : a4 = b4 := Enc.inj (α := Hdr) _ _ p4
  obtain ⟨p5, q5⟩ := List.append_inj q4 (rfl)
  have e5 : a5 = b5 := by have := List.head_eq_of_cons_eq p5; injection this
  have e6 := Enc.inj (α := GRef15Result) _ _ q5
  rw [e0, e1, e2, e3, e4, e5, e6]
instance : Enc GRef15Sale where
  n := 9
  enc := GRef15Sale.enc
  pos := by omega
  len := GRef15Sale.enc_len
  one := GRef15Sale.enc_one
  inj := GRef15Sale.enc_inj
@[go_sem] theorem GRef15Sale.n_eq : Enc.n GRef15Sale = 9 := rfl
@[irreducible] def GRef15Sale.val (x : GRef15Sale) : Value := .agg x.enc.toArray
theorem GRef15Sale.val_eq (x : GRef15Sale) : GRef15Sale.val x = .agg (Enc.enc x).toArray := by unfold GRef15Sale.val; rfl
theorem GRef15Sale.ext_all (x y : GRef15Sale) : x = y ↔ x.name = y.name ∧ x.vickrey = y.vickrey ∧ x.reserve = y.reserve ∧ x.close = y.close ∧ x.bids = y.bids ∧ x.settled = y.settled ∧ x.r = y.r := by
  constructor
  · intro h; cases h; simp
  · intro h; cases x; cases y; simp_all
theorem uu137 : Tryz.prog.underlying 137 = some (.struct (Tryz.prog.fieldsOf 137)) := by kernel_rfl
theorem st137 : Tryz.prog.stoodInHeld 137 = false := by kernel_rfl
theorem fl137 : fieldTO Tryz.prog 137 = [(9, 0), (4, 1), (3, 2), (26, 3), (135, 4), (4, 5), (94, 6)] := by kernel_rfl
theorem nb137 : noBlank Tryz.prog 137 = true := by kernel_rfl
@[go_sem ↓ high] theorem xl_GRef15Sale (ρ : Operand → Value) (dst : Option Tmp) (x : Operand) (ty : TypeId) (pos : String) (after : Array Edge) (guard : Option (Nat × Bool)) : execOp ρ { dst, op := .load 137 x, type := ty, pos, after, guard } = (do pure (.value (← gLoad 137 (ρ x)))) := ex_load ..
@[go_sem ↓ high] theorem xs_GRef15Sale (ρ : Operand → Value) (dst : Option Tmp) (x y : Operand) (ty : TypeId) (pos : String) (after : Array Edge) (guard : Option (Nat × Bool)) : execOp ρ { dst, op := .store 137 x y, type := ty, pos, after, guard } = (do gStore 137 (ρ x) (ρ y); pure .skip) := ex_store ..
@[go_sem ↓ high] theorem xb_GRef15Sale (ρ : Operand → Value) (dst : Option Tmp) (x : Operand) (ty : TypeId) (pos : String) (after : Array Edge) (guard : Option (Nat × Bool)) : execOp ρ { dst, op := .box 137 x, type := ty, pos, after, guard } = (do pure (.value (← gBox 137 (ρ x)))) := ex_box ..
@[go_sem ↓ high] theorem xa_GRef15Sale (ρ : Operand → Value) (dst : Option Tmp) (ty : TypeId) (pos : String) (after : Array Edge) (guard : Option (Nat × Bool)) : execOp ρ { dst, op := .alloc 137, type := ty, pos, after, guard } = (do pure (.value (← gAlloc 137))) := ex_alloc ..
theorem ag137 : aggT Tryz.prog 137 = true := by kernel_rfl
theorem sz137 : sizeT Tryz.prog 137 = 9 := by kernel_rfl
section
variable (w : World)
@[go_sem ↓ high] theorem ld_GRef15Sale (a : Addr) : (gLoad 137 (.pointer (some a))).run Tryz.prog w = ofOpt ((get? GRef15Sale w a).map GRef15Sale.val) w (noLoad Tryz.prog 137 a w) := by
  unfold gLoad; exact run_loadAt_opt ag137 sz137 GRef15Sale.val GRef15Sale.val_eq
@[go_sem ↓ high] theorem st_GRef15Sale (a : Addr) (x : GRef15Sale) : (gStore 137 (.pointer (some a)) (GRef15Sale.val x)).run Tryz.prog w = okU' ((get? GRef15Sale w a).isSome && blkFree w a.block) (World.putCells w a (GRef15Sale.enc x)) (noStore Tryz.prog 137 (.pointer (some a)) (GRef15Sale.val x) w) := run_gStore_any sz137 GRef15Sale.val GRef15Sale.val_eq w a x
@[go_sem ↓ high] theorem bx_GRef15Sale (x : GRef15Sale) : (gBox 137 (GRef15Sale.val x)).run Tryz.prog w = .ok (.pointer (some ⟨w.heap.size, 0, none⟩)) (w.alloc (.cells (GRef15Sale.enc x).toArray 137)) := by
  rw [GRef15Sale.val_eq]; exact run_gBox _ w
end
theorem lk137_0 (x : GRef15Sale) : x.enc[0]? = some (.string x.name) := by
  simp [GRef15Sale.enc, List.getElem?_append]
theorem pt137_0 (w : World) (x : GRef15Sale) : (part 9 x.enc.toArray 0).run Tryz.prog w = .ok (.string x.name) w := run_part_one na9 us9 (lk137_0 x)
@[go_sem ↓ high] theorem fd137_0 (w : World) (x : GRef15Sale) : (gField 137 (GRef15Sale.val x) 0).run Tryz.prog w = .ok (.string x.name) w := by
  rw [GRef15Sale.val_eq]
  exact run_gField w uu137 (by rw [fl137]; rfl) (pt137_0 w x)
theorem lk137_1 (x : GRef15Sale) : x.enc[1]? = some (.bool x.vickrey) := by
  simp [GRef15Sale.enc, List.getElem?_append]
theorem pt137_1 (w : World) (x : GRef15Sale) : (part 4 x.enc.toArray 1).run Tryz.prog w = .ok (.bool x.vickrey) w := run_part_one na4 us4 (lk137_1 x)
@[go_sem ↓ high] theorem fd137_1 (w : World) (x : GRef15Sale) : (gField 137 (GRef15Sale.val x) 1).run Tryz.prog w = .ok (.bool x.vickrey) w := by
  rw [GRef15Sale.val_eq]
  exact run_gField w uu137 (by rw [fl137]; rfl) (pt137_1 w x)
theorem lk137_2 (x : GRef15Sale) : x.enc[2]? = some (.int .i64 x.reserve) := by
  simp [GRef15Sale.enc, List.getElem?_append]
theorem pt137_2 (w : World) (x : GRef15Sale) : (part 3 x.enc.toArray 2).run Tryz.prog w = .ok (.int .i64 x.reserve) w := run_part_one na3 us3 (lk137_2 x)
@[go_sem ↓ high] theorem fd137_2 (w : World) (x : GRef15Sale) : (gField 137 (GRef15Sale.val x) 2).run Tryz.prog w = .ok (.int .i64 x.reserve) w := by
  rw [GRef15Sale.val_eq]
  exact run_gField w uu137 (by rw [fl137]; rfl) (pt137_2 w x)
theorem lk137_3 (x : GRef15Sale) : x.enc[3]? = some (.int .u64 x.close) := by
  simp [GRef15Sale.enc, List.getElem?_append]
theorem pt137_3 (w : World) (x : GRef15Sale) : (part 26 x.enc.toArray 3).run Tryz.prog w = .ok (.int .u64 x.close) w := run_part_one na26 us26 (lk137_3 x)
@[go_sem ↓ high] theorem fd137_3 (w : World) (x : GRef15Sale) : (gField 137 (GRef15Sale.val x) 3).run Tryz.prog w = .ok (.int .u64 x.close) w := by
  rw [GRef15Sale.val_eq]
  exact run_gField w uu137 (by rw [fl137]; rfl) (pt137_3 w x)
theorem lk137_4 (x : GRef15Sale) : x.enc[4]? = some (x.bids.val) := by
  simp [GRef15Sale.enc, List.getElem?_append]
theorem pt137_4 (w : World) (x : GRef15Sale) : (part 135 x.enc.toArray 4).run Tryz.prog w = .ok (x.bids.val) w := run_part_one na135 us135 (lk137_4 x)
@[go_sem ↓ high] theorem fd137_4 (w : World) (x : GRef15Sale) : (gField 137 (GRef15Sale.val x) 4).run Tryz.prog w = .ok (x.bids.val) w := by
  rw [GRef15Sale.val_eq]
  exact run_gField w uu137 (by rw [fl137]; rfl) (pt137_4 w x)
theorem lk137_5 (x : GRef15Sale) : x.enc[5]? = some (.bool x.settled) := by
  simp [GRef15Sale.enc, List.getElem?_append]
theorem pt137_5 (w : World) (x : GRef15Sale) : (part 4 x.enc.toArray 5).run Tryz.prog w = .ok (.bool x.settled) w := run_part_one na4 us4 (lk137_5 x)
@[go_sem ↓ high] theorem fd137_5 (w : World) (x : GRef15Sale) : (gField 137 (GRef15Sale.val x) 5).run Tryz.prog w = .ok (.bool x.settled) w := by
  rw [GRef15Sale.val_eq]
  exact run_gField w uu137 (by rw [fl137]; rfl) (pt137_5 w x)
theorem ds137_6 (x : GRef15Sale) : (x.enc.drop 6).take 3 = x.r.enc := by
  unfold GRef15Sale.enc
  simp [List.drop_append, List.drop_eq_nil_of_le]
  exact List.take_of_length_le (by simp [GRef15Result.enc_len])
theorem pt137_6 (w : World) (x : GRef15Sale) : (part 94 x.enc.toArray 6).run Tryz.prog w = .ok (x.r.val) w := by
  have h := run_part_agg (P := Tryz.prog) (w := w) (cs := x.enc) (ds := x.r.enc) (off := 6) ag94 (by rw [GRef15Result.enc_len]; exact sz94) (by simp [GRef15Result.enc_len]) (by rw [GRef15Result.enc_len]; exact ds137_6 x)
  rw [h, GRef15Result.val_eq]; rfl
@[go_sem ↓ high] theorem fd137_6 (w : World) (x : GRef15Sale) : (gField 137 (GRef15Sale.val x) 6).run Tryz.prog w = .ok (x.r.val) w := by
  rw [GRef15Sale.val_eq]
  exact run_gField w uu137 (by rw [fl137]; rfl) (pt137_6 w x)
@[go_sem ↓ high] theorem xf_GRef15Sale (ρ : Operand → Value) (dst : Option Tmp) (x : Operand) (i : Nat) (ty : TypeId) (pos : String) (after : Array Edge) (guard : Option (Nat × Bool)) : execOp ρ { dst, op := .field 137 x i, type := ty, pos, after, guard } = (do pure (.value (← gField 137 (ρ x) i))) := ex_field ..
theorem zr137 : zeroT Tryz.prog 137 = some (.agg (GRef15Sale.enc default).toArray) := by kernel_rfl
@[go_sem ↓ high] theorem al_GRef15Sale (w : World) : (gAlloc 137).run Tryz.prog w = .ok (.pointer (some ⟨w.heap.size, 0, none⟩)) (w.alloc (.cells (GRef15Sale.enc default).toArray 137)) := run_zero_alloc zr137 w
@[go_sem] theorem pc_GRef15Sale (w : World) (n : Nat) (x z : GRef15Sale) (hn : n = w.heap.size) : World.putCells (w.alloc (.cells (GRef15Sale.enc z).toArray 137)) ⟨n, 0, none⟩ (GRef15Sale.enc x) = w.alloc (.cells (GRef15Sale.enc x).toArray 137) := putCells_top x z hn
theorem GRef15Sale.at_name {w : World} {a : Addr} {x : GRef15Sale} (h : get? GRef15Sale w a = some x) : w.cell? (a.add 0) = some (.string x.name) := (get?_iff.1 h) _ _ (lk137_0 x)
theorem GRef15Sale.at_vickrey {w : World} {a : Addr} {x : GRef15Sale} (h : get? GRef15Sale w a = some x) : w.cell? (a.add 1) = some (.bool x.vickrey) := (get?_iff.1 h) _ _ (lk137_1 x)
theorem GRef15Sale.at_reserve {w : World} {a : Addr} {x : GRef15Sale} (h : get? GRef15Sale w a = some x) : w.cell? (a.add 2) = some (.int .i64 x.reserve) := (get?_iff.1 h) _ _ (lk137_2 x)
theorem GRef15Sale.at_close {w : World} {a : Addr} {x : GRef15Sale} (h : get? GRef15Sale w a = some x) : w.cell? (a.add 3) = some (.int .u64 x.close) := (get?_iff.1 h) _ _ (lk137_3 x)
theorem GRef15Sale.at_bids {w : World} {a : Addr} {x : GRef15Sale} (h : get? GRef15Sale w a = some x) : w.cell? (a.add 4) = some (x.bids.val) := (get?_iff.1 h) _ _ (lk137_4 x)
theorem GRef15Sale.at_settled {w : World} {a : Addr} {x : GRef15Sale} (h : get? GRef15Sale w a = some x) : w.cell? (a.add 5) = some (.bool x.settled) := (get?_iff.1 h) _ _ (lk137_5 x)
theorem GRef15Sale.at_r {w : World} {a : Addr} {x : GRef15Sale} (h : get? GRef15Sale w a = some x) : get? GRef15Result w (a.add 6) = some x.r := by
  rw [get?_iff] at h ⊢
  refine h.sub 6 fun j v hv => ?_
  have hd := ds137_6 x
  have hj : j < 3 := by have := (List.getElem?_eq_some_iff.1 hv).1; rwa [Enc.len] at this
  show x.enc[6 + j]? = some v
  rw [← List.getElem?_drop, ← List.getElem?_take_of_lt hj, hd]; exact hv
@[go_sem] theorem nl137_0 (x : GRef15Sale) : x.enc[0]? = some (.string x.name) := by
  have h := (GRef15Sale.at_name (get?_new (w := (default : World)) 137 x))
  simp only [Addr.add_lit, Nat.zero_add, Nat.reduceAdd, World.cell?_alloc_new, List.getElem?_toArray] at h
  exact h
@[go_sem] theorem nl137_1 (x : GRef15Sale) : x.enc[1]? = some (.bool x.vickrey) := by
  have h := (GRef15Sale.at_vickrey (get?_new (w := (default : World)) 137 x))
  simp only [Addr.add_lit, Nat.zero_add, Nat.reduceAdd, World.cell?_alloc_new, List.getElem?_toArray] at h
  exact h
@[go_sem] theorem nl137_2 (x : GRef15Sale) : x.enc[2]? = some (.int .i64 x.reserve) := by
  have h := (GRef15Sale.at_reserve (get?_new (w := (default : World)) 137 x))
  simp only [Addr.add_lit, Nat.zero_add, Nat.reduceAdd, World.cell?_alloc_new, List.getElem?_toArray] at h
  exact h
@[go_sem] theorem nl137_3 (x : GRef15Sale) : x.enc[3]? = some (.int .u64 x.close) := by
  have h := (GRef15Sale.at_close (get?_new (w := (default : World)) 137 x))
  simp only [Addr.add_lit, Nat.zero_add, Nat.reduceAdd, World.cell?_alloc_new, List.getElem?_toArray] at h
  exact h
@[go_sem] theorem nl137_4 (x : GRef15Sale) : x.enc[4]? = some (x.bids.val) := by
  have h := (GRef15Sale.at_bids (get?_new (w := (default : World)) 137 x))
  simp only [Addr.add_lit, Nat.zero_add, Nat.reduceAdd, World.cell?_alloc_new, List.getElem?_toArray] at h
  exact h
@[go_sem] theorem nl137_5 (x : GRef15Sale) : x.enc[5]? = some (.bool x.settled) := by
  have h := (GRef15Sale.at_settled (get?_new (w := (default : World)) 137 x))
  simp only [Addr.add_lit, Nat.zero_add, Nat.reduceAdd, World.cell?_alloc_new, List.getElem?_toArray] at h
  exact h
@[go_sem] theorem nw137_6_GRef15Result (w : World) (n : Nat) (x : GRef15Sale) (hn : n = w.heap.size) : get? GRef15Result (w.alloc (.cells (GRef15Sale.enc x).toArray 137)) ⟨n, 6, none⟩ = some x.r := by
  subst hn
  have h := (GRef15Sale.at_r (get?_new (w := w) 137 x))
  simp only [Addr.add_lit, Nat.zero_add, Nat.reduceAdd] at h
  exact h
@[go_sem] theorem nl137_6 (x : GRef15Sale) : x.enc[6]? = some (.string x.r.name) := by
  have h := (GRef15Result.at_name (GRef15Sale.at_r (get?_new (w := (default : World)) 137 x)))
  simp only [Addr.add_lit, Nat.zero_add, Nat.reduceAdd, World.cell?_alloc_new, List.getElem?_toArray] at h
  exact h
@[go_sem] theorem nl137_7 (x : GRef15Sale) : x.enc[7]? = some (.int .i64 x.r.winner) := by
  have h := (GRef15Result.at_winner (GRef15Sale.at_r (get?_new (w := (default : World)) 137 x)))
  simp only [Addr.add_lit, Nat.zero_add, Nat.reduceAdd, World.cell?_alloc_new, List.getElem?_toArray] at h
  exact h
@[go_sem] theorem nl137_8 (x : GRef15Sale) : x.enc[8]? = some (.int .i64 x.r.price) := by
  have h := (GRef15Result.at_price (GRef15Sale.at_r (get?_new (w := (default : World)) 137 x)))
  simp only [Addr.add_lit, Nat.zero_add, Nat.reduceAdd, World.cell?_alloc_new, List.getElem?_toArray] at h
  exact h
@[go_sem] theorem nw137 (w : World) (n : Nat) (x : GRef15Sale) (hn : n = w.heap.size) : get? GRef15Sale (w.alloc (.cells (GRef15Sale.enc x).toArray 137)) ⟨n, 0, none⟩ = some x := by
  subst hn; exact get?_new 137 x
theorem pl137 : ((Tryz.prog.fieldsOf 137).toList.mapM fun f => (Tryz.prog.info? f.type).map fun i => (f.offset, i.size)) = some [(0, 1), (1, 1), (2, 1), (3, 1), (4, 1), (5, 1), (6, 3)] := by kernel_rfl
theorem fs137_0 (x : GRef15Sale) (v : ByteArray) (rest : List (Nat × Value)) : Instr.fill (fun i => ([(0, 1), (1, 1), (2, 1), (3, 1), (4, 1), (5, 1), (6, 3)] : List (Nat × Nat))[i]?) x.enc.toArray ((0, (.string v)) :: rest) = Instr.fill (fun i => ([(0, 1), (1, 1), (2, 1), (3, 1), (4, 1), (5, 1), (6, 3)] : List (Nat × Nat))[i]?) ({ x with name := v } : GRef15Sale).enc.toArray rest := by
  have h := fill_seg [(0, 1), (1, 1), (2, 1), (3, 1), (4, 1), (5, 1), (6, 3)] 0 0 1 rfl (([] : List Value)) ([(.string x.name)]) ([(.bool x.vickrey)] ++ ([(.int .i64 x.reserve)] ++ ([(.int .u64 x.close)] ++ ([(x.bids.val)] ++ ([(.bool x.settled)] ++ (x.r.enc ++ (([] : List Value)))))))) ([(.string v)]) (.string v) rest (rfl) (by simp [GRef15Result.enc_len]) (by simp [GRef15Result.enc_len]) (by simp [GRef15Result.enc_len])
  have e1 : x.enc = (([] : List Value)) ++ ([(.string x.name)] ++ ([(.bool x.vickrey)] ++ ([(.int .i64 x.reserve)] ++ ([(.int .u64 x.close)] ++ ([(x.bids.val)] ++ ([(.bool x.settled)] ++ (x.r.enc ++ (([] : List Value))))))))) := by simp [GRef15Sale.enc]
  have e2 : ({ x with name := v } : GRef15Sale).enc = (([] : List Value)) ++ ([(.string v)] ++ ([(.bool x.vickrey)] ++ ([(.int .i64 x.reserve)] ++ ([(.int .u64 x.close)] ++ ([(x.bids.val)] ++ ([(.bool x.settled)] ++ (x.r.enc ++ (([] : List Value))))))))) := by simp [GRef15Sale.enc]
  rw [e1, e2]; exact h
theorem fs137_1 (x : GRef15Sale) (v : Bool) (rest : List (Nat × Value)) : Instr.fill (fun i => ([(0, 1), (1, 1), (2, 1), (3, 1), (4, 1), (5, 1), (6, 3)] : List (Nat × Nat))[i]?) x.enc.toArray ((1, (.bool v)) :: rest) = Instr.fill (fun i => ([(0, 1), (1, 1), (2, 1), (3, 1), (4, 1), (5, 1), (6, 3)] : List (Nat × Nat))[i]?) ({ x with vickrey := v } : GRef15Sale).enc.toArray rest := by
  have h := fill_seg [(0, 1), (1, 1), (2, 1), (3, 1), (4, 1), (5, 1), (6, 3)] 1 1 1 rfl (([] : List Value) ++ ([(.string x.name)])) ([(.bool x.vickrey)]) ([(.int .i64 x.reserve)] ++ ([(.int .u64 x.close)] ++ ([(x.bids.val)] ++ ([(.bool x.settled)] ++ (x.r.enc ++ (([] : List Value))))))) ([(.bool v)]) (.bool v) rest (rfl) (by simp [GRef15Result.enc_len]) (by simp [GRef15Result.enc_len]) (by simp [GRef15Result.enc_len])
  have e1 : x.enc = (([] : List Value) ++ ([(.string x.name)])) ++ ([(.bool x.vickrey)] ++ ([(.int .i64 x.reserve)] ++ ([(.int .u64 x.close)] ++ ([(x.bids.val)] ++ ([(.bool x.settled)] ++ (x.r.enc ++ (([] : List Value)))))))) := by simp [GRef15Sale.enc]
  have e2 : ({ x with vickrey := v } : GRef15Sale).enc = (([] : List Value) ++ ([(.string x.name)])) ++ ([(.bool v)] ++ ([(.int .i64 x.reserve)] ++ ([(.int .u64 x.close)] ++ ([(x.bids.val)] ++ ([(.bool x.settled)] ++ (x.r.enc ++ (([] : List Value)))))))) := by simp [GRef15Sale.enc]
  rw [e1, e2]; exact h
theorem fs137_2 (x : GRef15Sale) (v : Int) (rest : List (Nat × Value)) : Instr.fill (fun i => ([(0, 1), (1, 1), (2, 1), (3, 1), (4, 1), (5, 1), (6, 3)] : List (Nat × Nat))[i]?) x.enc.toArray ((2, (.int .i64 v)) :: rest) = Instr.fill (fun i => ([(0, 1), (1, 1), (2, 1), (3, 1), (4, 1), (5, 1), (6, 3)] : List (Nat × Nat))[i]?) ({ x with reserve := v } : GRef15Sale).enc.toArray rest := by
  have h := fill_seg [(0, 1), (1, 1), (2, 1), (3, 1), (4, 1), (5, 1), (6, 3)] 2 2 1 rfl (([] : List Value) ++ ([(.string x.name)] ++ ([(.bool x.vickrey)]))) ([(.int .i64 x.reserve)]) ([(.int .u64 x.close)] ++ ([(x.bids.val)] ++ ([(.bool x.settled)] ++ (x.r.enc ++ (([] : List Value)))))) ([(.int .i64 v)]) (.int .i64 v) rest (rfl) (by simp [GRef15Result.enc_len]) (by simp [GRef15Result.enc_len]) (by simp [GRef15Result.enc_len])
  have e1 : x.enc = (([] : List Value) ++ ([(.string x.name)] ++ ([(.bool x.vickrey)]))) ++ ([(.int .i64 x.reserve)] ++ ([(.int .u64 x.close)] ++ ([(x.bids.val)] ++ ([(.bool x.settled)] ++ (x.r.enc ++ (([] : List Value))))))) := by simp [GRef15Sale.enc]
  have e2 : ({ x with reserve := v } : GRef15Sale).enc = (([] : List Value) ++ ([(.string x.name)] ++ ([(.bool x.vickrey)]))) ++ ([(.int .i64 v)] ++ ([(.int .u64 x.close)] ++ ([(x.bids.val)] ++ ([(.bool x.settled)] ++ (x.r.enc ++ (([] : List Value))))))) := by simp [GRef15Sale.enc]
  rw [e1, e2]; exact h
theorem fs137_3 (x : GRef15Sale) (v : Int) (rest : List (Nat × Value)) : Instr.fill (fun i => ([(0, 1), (1, 1), (2, 1), (3, 1), (4, 1), (5, 1), (6, 3)] : List (Nat × Nat))[i]?) x.enc.toArray ((3, (.int .u64 v)) :: rest) = Instr.fill (fun i => ([(0, 1), (1, 1), (2, 1), (3, 1), (4, 1), (5, 1), (6, 3)] : List (Nat × Nat))[i]?) ({ x with close := v } : GRef15Sale).enc.toArray rest := by
  have h := fill_seg [(0, 1), (1, 1), (2, 1), (3, 1), (4, 1), (5, 1), (6, 3)] 3 3 1 rfl (([] : List Value) ++ ([(.string x.name)] ++ ([(.bool x.vickrey)] ++ ([(.int .i64 x.reserve)])))) ([(.int .u64 x.close)]) ([(x.bids.val)] ++ ([(.bool x.settled)] ++ (x.r.enc ++ (([] : List Value))))) ([(.int .u64 v)]) (.int .u64 v) rest (rfl) (by simp [GRef15Result.enc_len]) (by simp [GRef15Result.enc_len]) (by simp [GRef15Result.enc_len])
  have e1 : x.enc = (([] : List Value) ++ ([(.string x.name)] ++ ([(.bool x.vickrey)] ++ ([(.int .i64 x.reserve)])))) ++ ([(.int .u64 x.close)] ++ ([(x.bids.val)] ++ ([(.bool x.settled)] ++ (x.r.enc ++ (([] : List Value)))))) := by simp [GRef15Sale.enc]
  have e2 : ({ x with close := v } : GRef15Sale).enc = (([] : List Value) ++ ([(.string x.name)] ++ ([(.bool x.vickrey)] ++ ([(.int .i64 x.reserve)])))) ++ ([(.int .u64 v)] ++ ([(x.bids.val)] ++ ([(.bool x.settled)] ++ (x.r.enc ++ (([] : List Value)))))) := by simp [GRef15Sale.enc]
  rw [e1, e2]; exact h
@[go_sem ↓ high] theorem xd_GRef15Sale (ρ : Operand → Value) (dst : Option Tmp) (ps : Array (Nat × Operand)) (ty : TypeId) (pos : String) (after : Array Edge) (guard : Option (Nat × Bool)) : execOp ρ { dst, op := .build 137 ps, type := ty, pos, after, guard } = (do pure (.value (← gBuild 137 (ps.map fun (i, x) => (i, ρ x))))) := ex_build ..
@[go_sem ↓ high] theorem bd137_0 (w : World) (v0 : ByteArray) (v1 : Bool) (v2 : Int) (v3 : Int) : (gBuild 137 #[(0, (.string v0)), (1, (.bool v1)), (2, (.int .i64 v2)), (3, (.int .u64 v3))]).run Tryz.prog w = .ok (GRef15Sale.val ⟨v0, v1, v2, v3, default, false, default⟩) w := by
  rw [GRef15Sale.val_eq]
  refine run_gBuild_of uu137 zr137 pl137 ?_ w
  show Instr.fill _ (GRef15Sale.enc default).toArray [(0, (.string v0)), (1, (.bool v1)), (2, (.int .i64 v2)), (3, (.int .u64 v3))] = _
  rw [fs137_0, fs137_1, fs137_2, fs137_3]; rfl

/-! ### gavel/gavelref15.bid -/
structure GRef15Bid where
  client : Int
  amount : Int
deriving DecidableEq
instance : Inhabited GRef15Bid := ⟨⟨0, 0⟩⟩
def GRef15Bid.enc (x : GRef15Bid) : List Value := [(.int .i64 x.client)] ++ ([(.int .i64 x.amount)])
theorem GRef15Bid.enc_len (x : GRef15Bid) : x.enc.length = 2 := by simp [GRef15Bid.enc]
theorem GRef15Bid.enc_one (x : GRef15Bid) : ∀ u ∈ x.enc, u.oneCell' = true := by
  intro u hu
  simp only [GRef15Bid.enc, List.mem_append, List.mem_singleton] at hu
  rcases hu with hu | hu
  · subst hu; rfl
  · subst hu; rfl
theorem GRef15Bid.enc_inj (x y : GRef15Bid) (h : x.enc = y.enc) : x = y := by
  obtain ⟨a0, a1⟩ := x
  obtain ⟨b0, b1⟩ := y
  simp only [GRef15Bid.enc] at h
  obtain ⟨p0, q0⟩ := List.append_inj h (rfl)
  have e0 : a0 = b0 := by have := List.head_eq_of_cons_eq p0; injection this
  have e1 : a1 = b1 := by have := List.head_eq_of_cons_eq q0; injection this
  rw [e0, e1]
instance : Enc GRef15Bid where
  n := 2
  enc := GRef15Bid.enc
  pos := by omega
  len := GRef15Bid.enc_len
  one := GRef15Bid.enc_one
  inj := GRef15Bid.enc_inj
@[go_sem] theorem GRef15Bid.n_eq : Enc.n GRef15Bid = 2 := rfl
@[irreducible] def GRef15Bid.val (x : GRef15Bid) : Value := .agg x.enc.toArray
theorem GRef15Bid.val_eq (x : GRef15Bid) : GRef15Bid.val x = .agg (Enc.enc x).toArray := by unfold GRef15Bid.val; rfl
theorem GRef15Bid.ext_all (x y : GRef15Bid) : x = y ↔ x.client = y.client ∧ x.amount = y.amount := by
  constructor
  · intro h; cases h; simp
  · intro h; cases x; cases y; simp_all
theorem uu141 : Tryz.prog.underlying 141 = some (.struct (Tryz.prog.fieldsOf 141)) := by kernel_rfl
theorem st141 : Tryz.prog.stoodInHeld 141 = false := by kernel_rfl
theorem fl141 : fieldTO Tryz.prog 141 = [(3, 0), (3, 1)] := by kernel_rfl
theorem nb141 : noBlank Tryz.prog 141 = true := by kernel_rfl
@[go_sem ↓ high] theorem xl_GRef15Bid (ρ : Operand → Value) (dst : Option Tmp) (x : Operand) (ty : TypeId) (pos : String) (after : Array Edge) (guard : Option (Nat × Bool)) : execOp ρ { dst, op := .load 141 x, type := ty, pos, after, guard } = (do pure (.value (← gLoad 141 (ρ x)))) := ex_load ..
@[go_sem ↓ high] theorem xs_GRef15Bid (ρ : Operand → Value) (dst : Option Tmp) (x y : Operand) (ty : TypeId) (pos : String) (after : Array Edge) (guard : Option (Nat × Bool)) : execOp ρ { dst, op := .store 141 x y, type := ty, pos, after, guard } = (do gStore 141 (ρ x) (ρ y); pure .skip) := ex_store ..
@[go_sem ↓ high] theorem xb_GRef15Bid (ρ : Operand → Value) (dst : Option Tmp) (x : Operand) (ty : TypeId) (pos : String) (after : Array Edge) (guard : Option (Nat × Bool)) : execOp ρ { dst, op := .box 141 x, type := ty, pos, after, guard } = (do pure (.value (← gBox 141 (ρ x)))) := ex_box ..
@[go_sem ↓ high] theorem xa_GRef15Bid (ρ : Operand → Value) (dst : Option Tmp) (ty : TypeId) (pos : String) (after : Array Edge) (guard : Option (Nat × Bool)) : execOp ρ { dst, op := .alloc 141, type := ty, pos, after, guard } = (do pure (.value (← gAlloc 141))) := ex_alloc ..
theorem ag141 : aggT Tryz.prog 141 = true := by kernel_rfl
theorem sz141 : sizeT Tryz.prog 141 = 2 := by kernel_rfl
section
variable (w : World)
@[go_sem ↓ high] theorem ld_GRef15Bid (a : Addr) : (gLoad 141 (.pointer (some a))).run Tryz.prog w = ofOpt ((get? GRef15Bid w a).map GRef15Bid.val) w (noLoad Tryz.prog 141 a w) := by
  unfold gLoad; exact run_loadAt_opt ag141 sz141 GRef15Bid.val GRef15Bid.val_eq
@[go_sem ↓ high] theorem st_GRef15Bid (a : Addr) (x : GRef15Bid) : (gStore 141 (.pointer (some a)) (GRef15Bid.val x)).run Tryz.prog w = okU' ((get? GRef15Bid w a).isSome && blkFree w a.block) (World.putCells w a (GRef15Bid.enc x)) (noStore Tryz.prog 141 (.pointer (some a)) (GRef15Bid.val x) w) := run_gStore_any sz141 GRef15Bid.val GRef15Bid.val_eq w a x
@[go_sem ↓ high] theorem bx_GRef15Bid (x : GRef15Bid) : (gBox 141 (GRef15Bid.val x)).run Tryz.prog w = .ok (.pointer (some ⟨w.heap.size, 0, none⟩)) (w.alloc (.cells (GRef15Bid.enc x).toArray 141)) := by
  rw [GRef15Bid.val_eq]; exact run_gBox _ w
end
theorem lk141_0 (x : GRef15Bid) : x.enc[0]? = some (.int .i64 x.client) := by
  simp [GRef15Bid.enc, List.getElem?_append]
theorem pt141_0 (w : World) (x : GRef15Bid) : (part 3 x.enc.toArray 0).run Tryz.prog w = .ok (.int .i64 x.client) w := run_part_one na3 us3 (lk141_0 x)
@[go_sem ↓ high] theorem fd141_0 (w : World) (x : GRef15Bid) : (gField 141 (GRef15Bid.val x) 0).run Tryz.prog w = .ok (.int .i64 x.client) w := by
  rw [GRef15Bid.val_eq]
  exact run_gField w uu141 (by rw [fl141]; rfl) (pt141_0 w x)
theorem lk141_1 (x : GRef15Bid) : x.enc[1]? = some (.int .i64 x.amount) := by
  simp [GRef15Bid.enc, List.getElem?_append]
theorem pt141_1 (w : World) (x : GRef15Bid) : (part 3 x.enc.toArray 1).run Tryz.prog w = .ok (.int .i64 x.amount) w := run_part_one na3 us3 (lk141_1 x)
@[go_sem ↓ high] theorem fd141_1 (w : World) (x : GRef15Bid) : (gField 141 (GRef15Bid.val x) 1).run Tryz.prog w = .ok (.int .i64 x.amount) w := by
  rw [GRef15Bid.val_eq]
  exact run_gField w uu141 (by rw [fl141]; rfl) (pt141_1 w x)
@[go_sem ↓ high] theorem xf_GRef15Bid (ρ : Operand → Value) (dst : Option Tmp) (x : Operand) (i : Nat) (ty : TypeId) (pos : String) (after : Array Edge) (guard : Option (Nat × Bool)) : execOp ρ { dst, op := .field 141 x i, type := ty, pos, after, guard } = (do pure (.value (← gField 141 (ρ x) i))) := ex_field ..
theorem zr141 : zeroT Tryz.prog 141 = some (.agg (GRef15Bid.enc default).toArray) := by kernel_rfl
@[go_sem ↓ high] theorem al_GRef15Bid (w : World) : (gAlloc 141).run Tryz.prog w = .ok (.pointer (some ⟨w.heap.size, 0, none⟩)) (w.alloc (.cells (GRef15Bid.enc default).toArray 141)) := run_zero_alloc zr141 w
@[go_sem] theorem pc_GRef15Bid (w : World) (n : Nat) (x z : GRef15Bid) (hn : n = w.heap.size) : World.putCells (w.alloc (.cells (GRef15Bid.enc z).toArray 141)) ⟨n, 0, none⟩ (GRef15Bid.enc x) = w.alloc (.cells (GRef15Bid.enc x).toArray 141) := putCells_top x z hn
theorem GRef15Bid.at_client {w : World} {a : Addr} {x : GRef15Bid} (h : get? GRef15Bid w a = some x) : w.cell? (a.add 0) = some (.int .i64 x.client) := (get?_iff.1 h) _ _ (lk141_0 x)
theorem GRef15Bid.at_amount {w : World} {a : Addr} {x : GRef15Bid} (h : get? GRef15Bid w a = some x) : w.cell? (a.add 1) = some (.int .i64 x.amount) := (get?_iff.1 h) _ _ (lk141_1 x)
@[go_sem] theorem nl141_0 (x : GRef15Bid) : x.enc[0]? = some (.int .i64 x.client) := by
  have h := (GRef15Bid.at_client (get?_new (w := (default : World)) 141 x))
  simp only [Addr.add_lit, Nat.zero_add, Nat.reduceAdd, World.cell?_alloc_new, List.getElem?_toArray] at h
  exact h
@[go_sem] theorem nl141_1 (x : GRef15Bid) : x.enc[1]? = some (.int .i64 x.amount) := by
  have h := (GRef15Bid.at_amount (get?_new (w := (default : World)) 141 x))
  simp only [Addr.add_lit, Nat.zero_add, Nat.reduceAdd, World.cell?_alloc_new, List.getElem?_toArray] at h
  exact h
@[go_sem] theorem nw141 (w : World) (n : Nat) (x : GRef15Bid) (hn : n = w.heap.size) : get? GRef15Bid (w.alloc (.cells (GRef15Bid.enc x).toArray 141)) ⟨n, 0, none⟩ = some x := by
  subst hn; exact get?_new 141 x
theorem pl141 : ((Tryz.prog.fieldsOf 141).toList.mapM fun f => (Tryz.prog.info? f.type).map fun i => (f.offset, i.size)) = some [(0, 1), (1, 1)] := by kernel_rfl
theorem fs141_0 (x : GRef15Bid) (v : Int) (rest : List (Nat × Value)) : Instr.fill (fun i => ([(0, 1), (1, 1)] : List (Nat × Nat))[i]?) x.enc.toArray ((0, (.int .i64 v)) :: rest) = Instr.fill (fun i => ([(0, 1), (1, 1)] : List (Nat × Nat))[i]?) ({ x with client := v } : GRef15Bid).enc.toArray rest := by
  have h := fill_seg [(0, 1), (1, 1)] 0 0 1 rfl (([] : List Value)) ([(.int .i64 x.client)]) ([(.int .i64 x.amount)] ++ (([] : List Value))) ([(.int .i64 v)]) (.int .i64 v) rest (rfl) (by simp) (by simp) (by simp)
  have e1 : x.enc = (([] : List Value)) ++ ([(.int .i64 x.client)] ++ ([(.int .i64 x.amount)] ++ (([] : List Value)))) := by simp [GRef15Bid.enc]
  have e2 : ({ x with client := v } : GRef15Bid).enc = (([] : List Value)) ++ ([(.int .i64 v)] ++ ([(.int .i64 x.amount)] ++ (([] : List Value)))) := by simp [GRef15Bid.enc]
  rw [e1, e2]; exact h
theorem fs141_1 (x : GRef15Bid) (v : Int) (rest : List (Nat × Value)) : Instr.fill (fun i => ([(0, 1), (1, 1)] : List (Nat × Nat))[i]?) x.enc.toArray ((1, (.int .i64 v)) :: rest) = Instr.fill (fun i => ([(0, 1), (1, 1)] : List (Nat × Nat))[i]?) ({ x with amount := v } : GRef15Bid).enc.toArray rest := by
  have h := fill_seg [(0, 1), (1, 1)] 1 1 1 rfl (([] : List Value) ++ ([(.int .i64 x.client)])) ([(.int .i64 x.amount)]) (([] : List Value)) ([(.int .i64 v)]) (.int .i64 v) rest (rfl) (by simp) (by simp) (by simp)
  have e1 : x.enc = (([] : List Value) ++ ([(.int .i64 x.client)])) ++ ([(.int .i64 x.amount)] ++ (([] : List Value))) := by simp [GRef15Bid.enc]
  have e2 : ({ x with amount := v } : GRef15Bid).enc = (([] : List Value) ++ ([(.int .i64 x.client)])) ++ ([(.int .i64 v)] ++ (([] : List Value))) := by simp [GRef15Bid.enc]
  rw [e1, e2]; exact h
@[go_sem ↓ high] theorem xd_GRef15Bid (ρ : Operand → Value) (dst : Option Tmp) (ps : Array (Nat × Operand)) (ty : TypeId) (pos : String) (after : Array Edge) (guard : Option (Nat × Bool)) : execOp ρ { dst, op := .build 141 ps, type := ty, pos, after, guard } = (do pure (.value (← gBuild 141 (ps.map fun (i, x) => (i, ρ x))))) := ex_build ..
@[go_sem ↓ high] theorem bd141_0 (w : World) (v0 : Int) (v1 : Int) : (gBuild 141 #[(0, (.int .i64 v0)), (1, (.int .i64 v1))]).run Tryz.prog w = .ok (GRef15Bid.val ⟨v0, v1⟩) w := by
  rw [GRef15Bid.val_eq]
  refine run_gBuild_of uu141 zr141 pl141 ?_ w
  show Instr.fill _ (GRef15Bid.enc default).toArray [(0, (.int .i64 v0)), (1, (.int .i64 v1))] = _
  rw [fs141_0, fs141_1]; rfl
theorem eq_GRef15Bid (w : World) (d : Nat) (x y : GRef15Bid) : (Op.equalIn (d + 2) 141 (GRef15Bid.val x) (GRef15Bid.val y)).run Tryz.prog w = .ok (decide (x = y)) w := by
  have q0 : ∀ a b, (Op.equalIn (d + 1) 3 (.int .i64 a) (.int .i64 b)).run Tryz.prog w = .ok (decide (a = b)) w := fun a b => by rw [run_equalIn_int w (d + 0) 3 .i64 .i64 a b uk3]; congr 1
  have q1 : ∀ a b, (Op.equalIn (d + 1) 3 (.int .i64 a) (.int .i64 b)).run Tryz.prog w = .ok (decide (a = b)) w := fun a b => by rw [run_equalIn_int w (d + 0) 3 .i64 .i64 a b uk3]; congr 1
  have h := run_equalIn_fields (d + 1) x.enc.toArray y.enc.toArray w uu141 st141 nb141
  rw [fl141] at h
  unfold GRef15Bid.val
  refine h.trans ?_
  clear h
  simp only [eqFs, Sem.run_bind, pt141_0, pt141_1, q0, q1, Result.andThen_ok, Sem.run_ite, Sem.run_pure]
  have he : decide (x = y) = (decide (x.client = y.client) && (decide (x.amount = y.amount))) := by
    rw [Bool.eq_iff_iff]; simp only [Bool.and_eq_true, decide_eq_true_eq]; exact GRef15Bid.ext_all x y
  rw [he]
  generalize decide (x.client = y.client) = c0; generalize decide (x.amount = y.amount) = c1
  cases c0 <;> cases c1 <;> simp
@[go_sem ↓ high] theorem xq_GRef15Bid (ρ : Operand → Value) (dst : Option Tmp) (x y : Operand) (ty yt : TypeId) (pos : String) (after : Array Edge) (guard : Option (Nat × Bool)) : execOp ρ { dst, op := .binOp .eql 141 x y yt, type := ty, pos, after, guard } = (do pure (.value (← gBin .eql 141 x y (ρ x) (ρ y)))) := ex_eql ..
@[go_sem ↓ high] theorem xn_GRef15Bid (ρ : Operand → Value) (dst : Option Tmp) (x y : Operand) (ty yt : TypeId) (pos : String) (after : Array Edge) (guard : Option (Nat × Bool)) : execOp ρ { dst, op := .binOp .neq 141 x y yt, type := ty, pos, after, guard } = (do pure (.value (← gBin .neq 141 x y (ρ x) (ρ y)))) := ex_neq ..
theorem eg_GRef15Bid : Tryz.prog.eqGuardType Tryz.prog.depth 141 = false := by kernel_rfl
@[go_sem ↓ high] theorem eql_GRef15Bid (w : World) (ox oy : Operand) (x y : GRef15Bid) : (gBin .eql 141 ox oy (GRef15Bid.val x) (GRef15Bid.val y)).run Tryz.prog w = .ok (.bool (decide (x = y))) w := by
  have h2 := eq_GRef15Bid w 9998 x y
  rw [GRef15Bid.val_eq, GRef15Bid.val_eq] at h2 ⊢
  have h := run_eqGuard_agg (P := Tryz.prog) w .eql 141 ox oy (Enc.enc x).toArray (Enc.enc y).toArray eg_GRef15Bid
  unfold gBin
  simp only [Sem.run_bind, h, Result.andThen_ok, run_eql_struct, h2]
@[go_sem ↓ high] theorem neq_GRef15Bid (w : World) (ox oy : Operand) (x y : GRef15Bid) : (gBin .neq 141 ox oy (GRef15Bid.val x) (GRef15Bid.val y)).run Tryz.prog w = .ok (.bool (!decide (x = y))) w := by
  have h2 := eq_GRef15Bid w 9998 x y
  rw [GRef15Bid.val_eq, GRef15Bid.val_eq] at h2 ⊢
  have h := run_eqGuard_agg (P := Tryz.prog) w .neq 141 ox oy (Enc.enc x).toArray (Enc.enc y).toArray eg_GRef15Bid
  unfold gBin
  simp only [Sem.run_bind, h, Result.andThen_ok, run_neq_struct, h2]

/-! ### gavel/gavelref15.Registry -/
structure GRef15Registry where
  l : Hdr
deriving DecidableEq
instance : Inhabited GRef15Registry := ⟨⟨default⟩⟩
def GRef15Registry.enc (x : GRef15Registry) : List Value := [(x.l.val)]
theorem GRef15Registry.enc_len (x : GRef15Registry) : x.enc.length = 1 := by simp [GRef15Registry.enc]
theorem GRef15Registry.enc_one (x : GRef15Registry) : ∀ u ∈ x.enc, u.oneCell' = true := by
  intro u hu
  simp only [GRef15Registry.enc, List.mem_append, List.mem_singleton] at hu
  subst hu; rfl
theorem GRef15Registry.enc_inj (x y : GRef15Registry) (h : x.enc = y.enc) : x = y := by
  obtain ⟨a0⟩ := x
  obtain ⟨b0⟩ := y
  simp only [GRef15Registry.enc] at h
  have e0 : a0 = b0 := Enc.inj (α := Hdr) _ _ h
  rw [e0]
instance : Enc GRef15Registry where
  n := 1
  enc := GRef15Registry.enc
  pos := by omega
  len := GRef15Registry.enc_len
  one := GRef15Registry.enc_one
  inj := GRef15Registry.enc_inj
@[go_sem] theorem GRef15Registry.n_eq : Enc.n GRef15Registry = 1 := rfl
@[irreducible] def GRef15Registry.val (x : GRef15Registry) : Value := .agg x.enc.toArray
theorem GRef15Registry.val_eq (x : GRef15Registry) : GRef15Registry.val x = .agg (Enc.enc x).toArray := by unfold GRef15Registry.val; rfl
theorem GRef15Registry.ext_all (x y : GRef15Registry) : x = y ↔ x.l = y.l := by
  constructor
  · intro h; cases h; simp
  · intro h; cases x; cases y; simp_all
theorem uu88 : Tryz.prog.underlying 88 = some (.struct (Tryz.prog.fieldsOf 88)) := by kernel_rfl
theorem st88 : Tryz.prog.stoodInHeld 88 = false := by kernel_rfl
theorem fl88 : fieldTO Tryz.prog 88 = [(86, 0)] := by kernel_rfl
theorem nb88 : noBlank Tryz.prog 88 = true := by kernel_rfl
@[go_sem ↓ high] theorem xl_GRef15Registry (ρ : Operand → Value) (dst : Option Tmp) (x : Operand) (ty : TypeId) (pos : String) (after : Array Edge) (guard : Option (Nat × Bool)) : execOp ρ { dst, op := .load 88 x, type := ty, pos, after, guard } = (do pure (.value (← gLoad 88 (ρ x)))) := ex_load ..
@[go_sem ↓ high] theorem xs_GRef15Registry (ρ : Operand → Value) (dst : Option Tmp) (x y : Operand) (ty : TypeId) (pos : String) (after : Array Edge) (guard : Option (Nat × Bool)) : execOp ρ { dst, op := .store 88 x y, type := ty, pos, after, guard } = (do gStore 88 (ρ x) (ρ y); pure .skip) := ex_store ..
@[go_sem ↓ high] theorem xb_GRef15Registry (ρ : Operand → Value) (dst : Option Tmp) (x : Operand) (ty : TypeId) (pos : String) (after : Array Edge) (guard : Option (Nat × Bool)) : execOp ρ { dst, op := .box 88 x, type := ty, pos, after, guard } = (do pure (.value (← gBox 88 (ρ x)))) := ex_box ..
@[go_sem ↓ high] theorem xa_GRef15Registry (ρ : Operand → Value) (dst : Option Tmp) (ty : TypeId) (pos : String) (after : Array Edge) (guard : Option (Nat × Bool)) : execOp ρ { dst, op := .alloc 88, type := ty, pos, after, guard } = (do pure (.value (← gAlloc 88))) := ex_alloc ..
theorem ag88 : aggT Tryz.prog 88 = true := by kernel_rfl
theorem sz88 : sizeT Tryz.prog 88 = 1 := by kernel_rfl
section
variable (w : World)
@[go_sem ↓ high] theorem ld_GRef15Registry (a : Addr) : (gLoad 88 (.pointer (some a))).run Tryz.prog w = ofOpt ((get? GRef15Registry w a).map GRef15Registry.val) w (noLoad Tryz.prog 88 a w) := by
  unfold gLoad; exact run_loadAt_opt ag88 sz88 GRef15Registry.val GRef15Registry.val_eq
@[go_sem ↓ high] theorem st_GRef15Registry (a : Addr) (x : GRef15Registry) : (gStore 88 (.pointer (some a)) (GRef15Registry.val x)).run Tryz.prog w = okU' ((get? GRef15Registry w a).isSome && blkFree w a.block) (World.putCells w a (GRef15Registry.enc x)) (noStore Tryz.prog 88 (.pointer (some a)) (GRef15Registry.val x) w) := run_gStore_any sz88 GRef15Registry.val GRef15Registry.val_eq w a x
@[go_sem ↓ high] theorem bx_GRef15Registry (x : GRef15Registry) : (gBox 88 (GRef15Registry.val x)).run Tryz.prog w = .ok (.pointer (some ⟨w.heap.size, 0, none⟩)) (w.alloc (.cells (GRef15Registry.enc x).toArray 88)) := by
  rw [GRef15Registry.val_eq]; exact run_gBox _ w
end
theorem lk88_0 (x : GRef15Registry) : x.enc[0]? = some (x.l.val) := by
  simp [GRef15Registry.enc, List.getElem?_append]
theorem pt88_0 (w : World) (x : GRef15Registry) : (part 86 x.enc.toArray 0).run Tryz.prog w = .ok (x.l.val) w := run_part_one na86 us86 (lk88_0 x)
@[go_sem ↓ high] theorem fd88_0 (w : World) (x : GRef15Registry) : (gField 88 (GRef15Registry.val x) 0).run Tryz.prog w = .ok (x.l.val) w := by
  rw [GRef15Registry.val_eq]
  exact run_gField w uu88 (by rw [fl88]; rfl) (pt88_0 w x)
@[go_sem ↓ high] theorem xf_GRef15Registry (ρ : Operand → Value) (dst : Option Tmp) (x : Operand) (i : Nat) (ty : TypeId) (pos : String) (after : Array Edge) (guard : Option (Nat × Bool)) : execOp ρ { dst, op := .field 88 x i, type := ty, pos, after, guard } = (do pure (.value (← gField 88 (ρ x) i))) := ex_field ..
theorem zr88 : zeroT Tryz.prog 88 = some (.agg (GRef15Registry.enc default).toArray) := by kernel_rfl
@[go_sem ↓ high] theorem al_GRef15Registry (w : World) : (gAlloc 88).run Tryz.prog w = .ok (.pointer (some ⟨w.heap.size, 0, none⟩)) (w.alloc (.cells (GRef15Registry.enc default).toArray 88)) := run_zero_alloc zr88 w
@[go_sem] theorem pc_GRef15Registry (w : World) (n : Nat) (x z : GRef15Registry) (hn : n = w.heap.size) : World.putCells (w.alloc (.cells (GRef15Registry.enc z).toArray 88)) ⟨n, 0, none⟩ (GRef15Registry.enc x) = w.alloc (.cells (GRef15Registry.enc x).toArray 88) := putCells_top x z hn
theorem GRef15Registry.at_l {w : World} {a : Addr} {x : GRef15Registry} (h : get? GRef15Registry w a = some x) : w.cell? (a.add 0) = some (x.l.val) := (get?_iff.1 h) _ _ (lk88_0 x)
@[go_sem] theorem nl88_0 (x : GRef15Registry) : x.enc[0]? = some (x.l.val) := by
  have h := (GRef15Registry.at_l (get?_new (w := (default : World)) 88 x))
  simp only [Addr.add_lit, Nat.zero_add, Nat.reduceAdd, World.cell?_alloc_new, List.getElem?_toArray] at h
  exact h
@[go_sem] theorem nw88 (w : World) (n : Nat) (x : GRef15Registry) (hn : n = w.heap.size) : get? GRef15Registry (w.alloc (.cells (GRef15Registry.enc x).toArray 88)) ⟨n, 0, none⟩ = some x := by
  subst hn; exact get?_new 88 x

/-! ### gavel/gavelref15.owned -/
structure GRef15Owned where
  item : ByteArray
  client : Int
deriving DecidableEq
instance : Inhabited GRef15Owned := ⟨⟨ByteArray.empty, 0⟩⟩
def GRef15Owned.enc (x : GRef15Owned) : List Value := [(.string x.item)] ++ ([(.int .i64 x.client)])
theorem GRef15Owned.enc_len (x : GRef15Owned) : x.enc.length = 2 := by simp [GRef15Owned.enc]
theorem GRef15Owned.enc_one (x : GRef15Owned) : ∀ u ∈ x.enc, u.oneCell' = true := by
  intro u hu
  simp only [GRef15Owned.enc, List.mem_append, List.mem_singleton] at hu
  rcases hu with hu | hu
  · subst hu; rfl
  · subst hu; rfl
theorem GRef15Owned.enc_inj (x y : GRef15Owned) (h : x.enc = y.enc) : x = y := by
  obtain ⟨a0, a1⟩ := x
  obtain ⟨b0, b1⟩ := y
  simp only [GRef15Owned.enc] at h
  obtain ⟨p0, q0⟩ := List.append_inj h (rfl)
  have e0 : a0 = b0 := by have := List.head_eq_of_cons_eq p0; injection this
  have e1 : a1 = b1 := by have := List.head_eq_of_cons_eq q0; injection this
  rw [e0, e1]
instance : Enc GRef15Owned where
  n := 2
  enc := GRef15Owned.enc
  pos := by omega
  len := GRef15Owned.enc_len
  one := GRef15Owned.enc_one
  inj := GRef15Owned.enc_inj
@[go_sem] theorem GRef15Owned.n_eq : Enc.n GRef15Owned = 2 := rfl
@[irreducible] def GRef15Owned.val (x : GRef15Owned) : Value := .agg x.enc.toArray
theorem GRef15Owned.val_eq (x : GRef15Owned) : GRef15Owned.val x = .agg (Enc.enc x).toArray := by unfold GRef15Owned.val; rfl
theorem GRef15Owned.ext_all (x y : GRef15Owned) : x = y ↔ x.item = y.item ∧ x.client = y.client := by
  constructor
  · intro h; cases h; simp
  · intro h; cases x; cases y; simp_all
theorem uu143 : Tryz.prog.underlying 143 = some (.struct (Tryz.prog.fieldsOf 143)) := by kernel_rfl
theorem st143 : Tryz.prog.stoodInHeld 143 = false := by kernel_rfl
theorem fl143 : fieldTO Tryz.prog 143 = [(9, 0), (3, 1)] := by kernel_rfl
theorem nb143 : noBlank Tryz.prog 143 = true := by kernel_rfl
@[go_sem ↓ high] theorem xl_GRef15Owned (ρ : Operand → Value) (dst : Option Tmp) (x : Operand) (ty : TypeId) (pos : String) (after : Array Edge) (guard : Option (Nat × Bool)) : execOp ρ { dst, op := .load 143 x, type := ty, pos, after, guard } = (do pure (.value (← gLoad 143 (ρ x)))) := ex_load ..
@[go_sem ↓ high] theorem xs_GRef15Owned (ρ : Operand → Value) (dst : Option Tmp) (x y : Operand) (ty : TypeId) (pos : String) (after : Array Edge) (guard : Option (Nat × Bool)) : execOp ρ { dst, op := .store 143 x y, type := ty, pos, after, guard } = (do gStore 143 (ρ x) (ρ y); pure .skip) := ex_store ..
@[go_sem ↓ high] theorem xb_GRef15Owned (ρ : Operand → Value) (dst : Option Tmp) (x : Operand) (ty : TypeId) (pos : String) (after : Array Edge) (guard : Option (Nat × Bool)) : execOp ρ { dst, op := .box 143 x, type := ty, pos, after, guard } = (do pure (.value (← gBox 143 (ρ x)))) := ex_box ..
@[go_sem ↓ high] theorem xa_GRef15Owned (ρ : Operand → Value) (dst : Option Tmp) (ty : TypeId) (pos : String) (after : Array Edge) (guard : Option (Nat × Bool)) : execOp ρ { dst, op := .alloc 143, type := ty, pos, after, guard } = (do pure (.value (← gAlloc 143))) := ex_alloc ..
theorem ag143 : aggT Tryz.prog 143 = true := by kernel_rfl
theorem sz143 : sizeT Tryz.prog 143 = 2 := by kernel_rfl
section
variable (w : World)
@[go_sem ↓ high] theorem ld_GRef15Owned (a : Addr) : (gLoad 143 (.pointer (some a))).run Tryz.prog w = ofOpt ((get? GRef15Owned w a).map GRef15Owned.val) w (noLoad Tryz.prog 143 a w) := by
  unfold gLoad; exact run_loadAt_opt ag143 sz143 GRef15Owned.val GRef15Owned.val_eq
@[go_sem ↓ high] theorem st_GRef15Owned (a : Addr) (x : GRef15Owned) : (gStore 143 (.pointer (some a)) (GRef15Owned.val x)).run Tryz.prog w = okU' ((get? GRef15Owned w a).isSome && blkFree w a.block) (World.putCells w a (GRef15Owned.enc x)) (noStore Tryz.prog 143 (.pointer (some a)) (GRef15Owned.val x) w) := run_gStore_any sz143 GRef15Owned.val GRef15Owned.val_eq w a x
@[go_sem ↓ high] theorem bx_GRef15Owned (x : GRef15Owned) : (gBox 143 (GRef15Owned.val x)).run Tryz.prog w = .ok (.pointer (some ⟨w.heap.size, 0, none⟩)) (w.alloc (.cells (GRef15Owned.enc x).toArray 143)) := by
  rw [GRef15Owned.val_eq]; exact run_gBox _ w
end
theorem lk143_0 (x : GRef15Owned) : x.enc[0]? = some (.string x.item) := by
  simp [GRef15Owned.enc, List.getElem?_append]
theorem pt143_0 (w : World) (x : GRef15Owned) : (part 9 x.enc.toArray 0).run Tryz.prog w = .ok (.string x.item) w := run_part_one na9 us9 (lk143_0 x)
@[go_sem ↓ high] theorem fd143_0 (w : World) (x : GRef15Owned) : (gField 143 (GRef15Owned.val x) 0).run Tryz.prog w = .ok (.string x.item) w := by
  rw [GRef15Owned.val_eq]
  exact run_gField w uu143 (by rw [fl143]; rfl) (pt143_0 w x)
theorem lk143_1 (x : GRef15Owned) : x.enc[1]? = some (.int .i64 x.client) := by
  simp [GRef15Owned.enc, List.getElem?_append]
theorem pt143_1 (w : World) (x : GRef15Owned) : (part 3 x.enc.toArray 1).run Tryz.prog w = .ok (.int .i64 x.client) w := run_part_one na3 us3 (lk143_1 x)
@[go_sem ↓ high] theorem fd143_1 (w : World) (x : GRef15Owned) : (gField 143 (GRef15Owned.val x) 1).run Tryz.prog w = .ok (.int .i64 x.client) w := by
  rw [GRef15Owned.val_eq]
  exact run_gField w uu143 (by rw [fl143]; rfl) (pt143_1 w x)
@[go_sem ↓ high] theorem xf_GRef15Owned (ρ : Operand → Value) (dst : Option Tmp) (x : Operand) (i : Nat) (ty : TypeId) (pos : String) (after : Array Edge) (guard : Option (Nat × Bool)) : execOp ρ { dst, op := .field 143 x i, type := ty, pos, after, guard } = (do pure (.value (← gField 143 (ρ x) i))) := ex_field ..
theorem zr143 : zeroT Tryz.prog 143 = some (.agg (GRef15Owned.enc default).toArray) := by kernel_rfl
@[go_sem ↓ high] theorem al_GRef15Owned (w : World) : (gAlloc 143).run Tryz.prog w = .ok (.pointer (some ⟨w.heap.size, 0, none⟩)) (w.alloc (.cells (GRef15Owned.enc default).toArray 143)) := run_zero_alloc zr143 w
@[go_sem] theorem pc_GRef15Owned (w : World) (n : Nat) (x z : GRef15Owned) (hn : n = w.heap.size) : World.putCells (w.alloc (.cells (GRef15Owned.enc z).toArray 143)) ⟨n, 0, none⟩ (GRef15Owned.enc x) = w.alloc (.cells (GRef15Owned.enc x).toArray 143) := putCells_top x z hn
theorem GRef15Owned.at_item {w : World} {a : Addr} {x : GRef15Owned} (h : get? GRef15Owned w a = some x) : w.cell? (a.add 0) = some (.string x.item) := (get?_iff.1 h) _ _ (lk143_0 x)
theorem GRef15Owned.at_client {w : World} {a : Addr} {x : GRef15Owned} (h : get? GRef15Owned w a = some x) : w.cell? (a.add 1) = some (.int .i64 x.client) := (get?_iff.1 h) _ _ (lk143_1 x)
@[go_sem] theorem nl143_0 (x : GRef15Owned) : x.enc[0]? = some (.string x.item) := by
  have h := (GRef15Owned.at_item (get?_new (w := (default : World)) 143 x))
  simp only [Addr.add_lit, Nat.zero_add, Nat.reduceAdd, World.cell?_alloc_new, List.getElem?_toArray] at h
  exact h
@[go_sem] theorem nl143_1 (x : GRef15Owned) : x.enc[1]? = some (.int .i64 x.client) := by
  have h := (GRef15Owned.at_client (get?_new (w := (default : World)) 143 x))
  simp only [Addr.add_lit, Nat.zero_add, Nat.reduceAdd, World.cell?_alloc_new, List.getElem?_toArray] at h
  exact h
@[go_sem] theorem nw143 (w : World) (n : Nat) (x : GRef15Owned) (hn : n = w.heap.size) : get? GRef15Owned (w.alloc (.cells (GRef15Owned.enc x).toArray 143)) ⟨n, 0, none⟩ = some x := by
  subst hn; exact get?_new 143 x
theorem pl143 : ((Tryz.prog.fieldsOf 143).toList.mapM fun f => (Tryz.prog.info? f.type).map fun i => (f.offset, i.size)) = some [(0, 1), (1, 1)] := by kernel_rfl
theorem fs143_0 (x : GRef15Owned) (v : ByteArray) (rest : List (Nat × Value)) : Instr.fill (fun i => ([(0, 1), (1, 1)] : List (Nat × Nat))[i]?) x.enc.toArray ((0, (.string v)) :: rest) = Instr.fill (fun i => ([(0, 1), (1, 1)] : List (Nat × Nat))[i]?) ({ x with item := v } : GRef15Owned).enc.toArray rest := by
  have h := fill_seg [(0, 1), (1, 1)] 0 0 1 rfl (([] : List Value)) ([(.string x.item)]) ([(.int .i64 x.client)] ++ (([] : List Value))) ([(.string v)]) (.string v) rest (rfl) (by simp) (by simp) (by simp)
  have e1 : x.enc = (([] : List Value)) ++ ([(.string x.item)] ++ ([(.int .i64 x.client)] ++ (([] : List Value)))) := by simp [GRef15Owned.enc]
  have e2 : ({ x with item := v } : GRef15Owned).enc = (([] : List Value)) ++ ([(.string v)] ++ ([(.int .i64 x.client)] ++ (([] : List Value)))) := by simp [GRef15Owned.enc]
  rw [e1, e2]; exact h
theorem fs143_1 (x : GRef15Owned) (v : Int) (rest : List (Nat × Value)) : Instr.fill (fun i => ([(0, 1), (1, 1)] : List (Nat × Nat))[i]?) x.enc.toArray ((1, (.int .i64 v)) :: rest) = Instr.fill (fun i => ([(0, 1), (1, 1)] : List (Nat × Nat))[i]?) ({ x with client := v } : GRef15Owned).enc.toArray rest := by
  have h := fill_seg [(0, 1), (1, 1)] 1 1 1 rfl (([] : List Value) ++ ([(.string x.item)])) ([(.int .i64 x.client)]) (([] : List Value)) ([(.int .i64 v)]) (.int .i64 v) rest (rfl) (by simp) (by simp) (by simp)
  have e1 : x.enc = (([] : List Value) ++ ([(.string x.item)])) ++ ([(.int .i64 x.client)] ++ (([] : List Value))) := by simp [GRef15Owned.enc]
  have e2 : ({ x with client := v } : GRef15Owned).enc = (([] : List Value) ++ ([(.string x.item)])) ++ ([(.int .i64 v)] ++ (([] : List Value))) := by simp [GRef15Owned.enc]
  rw [e1, e2]; exact h
@[go_sem ↓ high] theorem xd_GRef15Owned (ρ : Operand → Value) (dst : Option Tmp) (ps : Array (Nat × Operand)) (ty : TypeId) (pos : String) (after : Array Edge) (guard : Option (Nat × Bool)) : execOp ρ { dst, op := .build 143 ps, type := ty, pos, after, guard } = (do pure (.value (← gBuild 143 (ps.map fun (i, x) => (i, ρ x))))) := ex_build ..
@[go_sem ↓ high] theorem bd143_0 (w : World) (v0 : ByteArray) (v1 : Int) : (gBuild 143 #[(0, (.string v0)), (1, (.int .i64 v1))]).run Tryz.prog w = .ok (GRef15Owned.val ⟨v0, v1⟩) w := by
  rw [GRef15Owned.val_eq]
  refine run_gBuild_of uu143 zr143 pl143 ?_ w
  show Instr.fill _ (GRef15Owned.enc default).toArray [(0, (.string v0)), (1, (.int .i64 v1))] = _
  rw [fs143_0, fs143_1]; rfl
theorem eq_GRef15Owned (w : World) (d : Nat) (x y : GRef15Owned) : (Op.equalIn (d + 2) 143 (GRef15Owned.val x) (GRef15Owned.val y)).run Tryz.prog w = .ok (decide (x = y)) w := by
  have q0 : ∀ a b, (Op.equalIn (d + 1) 9 (.string a) (.string b)).run Tryz.prog w = .ok (decide (a = b)) w := fun a b => by rw [run_equalIn_string w (d + 0) 9 a b uk9, bytes_beq]
  have q1 : ∀ a b, (Op.equalIn (d + 1) 3 (.int .i64 a) (.int .i64 b)).run Tryz.prog w = .ok (decide (a = b)) w := fun a b => by rw [run_equalIn_int w (d + 0) 3 .i64 .i64 a b uk3]; congr 1
  have h := run_equalIn_fields (d + 1) x.enc.toArray y.enc.toArray w uu143 st143 nb143
  rw [fl143] at h
  unfold GRef15Owned.val
  refine h.trans ?_
  clear h
  simp only [eqFs, Sem.run_bind, pt143_0, pt143_1, q0, q1, Result.andThen_ok, Sem.run_ite, Sem.run_pure]
  have he : decide (x = y) = (decide (x.item = y.item) && (decide (x.client = y.client))) := by
    rw [Bool.eq_iff_iff]; simp only [Bool.and_eq_true, decide_eq_true_eq]; exact GRef15Owned.ext_all x y
  rw [he]
  generalize decide (x.item = y.item) = c0; generalize decide (x.client = y.client) = c1
  cases c0 <;> cases c1 <;> simp
@[go_sem ↓ high] theorem xq_GRef15Owned (ρ : Operand → Value) (dst : Option Tmp) (x y : Operand) (ty yt : TypeId) (pos : String) (after : Array Edge) (guard : Option (Nat × Bool)) : execOp ρ { dst, op := .binOp .eql 143 x y yt, type := ty, pos, after, guard } = (do pure (.value (← gBin .eql 143 x y (ρ x) (ρ y)))) := ex_eql ..
@[go_sem ↓ high] theorem xn_GRef15Owned (ρ : Operand → Value) (dst : Option Tmp) (x y : Operand) (ty yt : TypeId) (pos : String) (after : Array Edge) (guard : Option (Nat × Bool)) : execOp ρ { dst, op := .binOp .neq 143 x y yt, type := ty, pos, after, guard } = (do pure (.value (← gBin .neq 143 x y (ρ x) (ρ y)))) := ex_neq ..
theorem eg_GRef15Owned : Tryz.prog.eqGuardType Tryz.prog.depth 143 = false := by kernel_rfl
@[go_sem ↓ high] theorem eql_GRef15Owned (w : World) (ox oy : Operand) (x y : GRef15Owned) : (gBin .eql 143 ox oy (GRef15Owned.val x) (GRef15Owned.val y)).run Tryz.prog w = .ok (.bool (decide (x = y))) w := by
  have h2 := eq_GRef15Owned w 9998 x y
  rw [GRef15Owned.val_eq, GRef15Owned.val_eq] at h2 ⊢
  have h := run_eqGuard_agg (P := Tryz.prog) w .eql 143 ox oy (Enc.enc x).toArray (Enc.enc y).toArray eg_GRef15Owned
  unfold gBin
  simp only [Sem.run_bind, h, Result.andThen_ok, run_eql_struct, h2]
@[go_sem ↓ high] theorem neq_GRef15Owned (w : World) (ox oy : Operand) (x y : GRef15Owned) : (gBin .neq 143 ox oy (GRef15Owned.val x) (GRef15Owned.val y)).run Tryz.prog w = .ok (.bool (!decide (x = y))) w := by
  have h2 := eq_GRef15Owned w 9998 x y
  rw [GRef15Owned.val_eq, GRef15Owned.val_eq] at h2 ⊢
  have h := run_eqGuard_agg (P := Tryz.prog) w .neq 143 ox oy (Enc.enc x).toArray (Enc.enc y).toArray eg_GRef15Owned
  unfold gBin
  simp only [Sem.run_bind, h, Result.andThen_ok, run_neq_struct, h2]

/-! ### gavel/gavelref15.App -/
structure GRef15App where
  h : Option Addr
  r : Option Addr
  n : Int
deriving DecidableEq
instance : Inhabited GRef15App := ⟨⟨none, none, 0⟩⟩
def GRef15App.enc (x : GRef15App) : List Value := [(.pointer x.h)] ++ ([(.pointer x.r)] ++ ([(.int .i64 x.n)]))
theorem GRef15App.enc_len (x : GRef15App) : x.enc.length = 3 := by simp [GRef15App.enc]
theorem GRef15App.enc_one (x : GRef15App) : ∀ u ∈ x.enc, u.oneCell' = true := by
  intro u hu
  simp only [GRef15App.enc, List.mem_append, List.mem_singleton] at hu
  rcases hu with hu | hu | hu
  · subst hu; rfl
  · subst hu; rfl
  · subst hu; rfl
theorem GRef15App.enc_inj (x y : GRef15App) (h : x.enc = y.enc) : x = y := by
  obtain ⟨a0, a1, a2⟩ := x
  obtain ⟨b0, b1, b2⟩ := y
  simp only [GRef15App.enc] at h
  obtain ⟨p0, q0⟩ := List.append_inj h (rfl)
  have e0 : a0 = b0 := by have := List.head_eq_of_cons_eq p0; injection this
  obtain ⟨p1, q1⟩ := List.append_inj q0 (rfl)
  have e1 : a1 = b1 := by have := List.head_eq_of_cons_eq p1; injection this
  have e2 : a2 = b2 := by have := List.head_eq_of_cons_eq q1; injection this
  rw [e0, e1, e2]
instance : Enc GRef15App where
  n := 3
  enc := GRef15App.enc
  pos := by omega
  len := GRef15App.enc_len
  one := GRef15App.enc_one
  inj := GRef15App.enc_inj
@[go_sem] theorem GRef15App.n_eq : Enc.n GRef15App = 3 := rfl
@[irreducible] def GRef15App.val (x : GRef15App) : Value := .agg x.enc.toArray
theorem GRef15App.val_eq (x : GRef15App) : GRef15App.val x = .agg (Enc.enc x).toArray := by unfold GRef15App.val; rfl
theorem GRef15App.ext_all (x y : GRef15App) : x = y ↔ x.h = y.h ∧ x.r = y.r ∧ x.n = y.n := by
  constructor
  · intro h; cases h; simp
  · intro h; cases x; cases y; simp_all
theorem uu90 : Tryz.prog.underlying 90 = some (.struct (Tryz.prog.fieldsOf 90)) := by kernel_rfl
theorem st90 : Tryz.prog.stoodInHeld 90 = false := by kernel_rfl
theorem fl90 : fieldTO Tryz.prog 90 = [(81, 0), (85, 1), (3, 2)] := by kernel_rfl
theorem nb90 : noBlank Tryz.prog 90 = true := by kernel_rfl
@[go_sem ↓ high] theorem xl_GRef15App (ρ : Operand → Value) (dst : Option Tmp) (x : Operand) (ty : TypeId) (pos : String) (after : Array Edge) (guard : Option (Nat × Bool)) : execOp ρ { dst, op := .load 90 x, type := ty, pos, after, guard } = (do pure (.value (← gLoad 90 (ρ x)))) := ex_load ..
@[go_sem ↓ high] theorem xs_GRef15App (ρ : Operand → Value) (dst : Option Tmp) (x y : Operand) (ty : TypeId) (pos : String) (after : Array Edge) (guard : Option (Nat × Bool)) : execOp ρ { dst, op := .store 90 x y, type := ty, pos, after, guard } = (do gStore 90 (ρ x) (ρ y); pure .skip) := ex_store ..
@[go_sem ↓ high] theorem xb_GRef15App (ρ : Operand → Value) (dst : Option Tmp) (x : Operand) (ty : TypeId) (pos : String) (after : Array Edge) (guard : Option (Nat × Bool)) : execOp ρ { dst, op := .box 90 x, type := ty, pos, after, guard } = (do pure (.value (← gBox 90 (ρ x)))) := ex_box ..
@[go_sem ↓ high] theorem xa_GRef15App (ρ : Operand → Value) (dst : Option Tmp) (ty : TypeId) (pos : String) (after : Array Edge) (guard : Option (Nat × Bool)) : execOp ρ { dst, op := .alloc 90, type := ty, pos, after, guard } = (do pure (.value (← gAlloc 90))) := ex_alloc ..
theorem ag90 : aggT Tryz.prog 90 = true := by kernel_rfl
theorem sz90 : sizeT Tryz.prog 90 = 3 := by kernel_rfl
section
variable (w : World)
@[go_sem ↓ high] theorem ld_GRef15App (a : Addr) : (gLoad 90 (.pointer (some a))).run Tryz.prog w = ofOpt ((get? GRef15App w a).map GRef15App.val) w (noLoad Tryz.prog 90 a w) := by
  unfold gLoad; exact run_loadAt_opt ag90 sz90 GRef15App.val GRef15App.val_eq
@[go_sem ↓ high] theorem st_GRef15App (a : Addr) (x : GRef15App) : (gStore 90 (.pointer (some a)) (GRef15App.val x)).run Tryz.prog w = okU' ((get? GRef15App w a).isSome && blkFree w a.block) (World.putCells w a (GRef15App.enc x)) (noStore Tryz.prog 90 (.pointer (some a)) (GRef15App.val x) w) := run_gStore_any sz90 GRef15App.val GRef15App.val_eq w a x
@[go_sem ↓ high] theorem bx_GRef15App (x : GRef15App) : (gBox 90 (GRef15App.val x)).run Tryz.prog w = .ok (.pointer (some ⟨w.heap.size, 0, none⟩)) (w.alloc (.cells (GRef15App.enc x).toArray 90)) := by
  rw [GRef15App.val_eq]; exact run_gBox _ w
end
theorem lk90_0 (x : GRef15App) : x.enc[0]? = some (.pointer x.h) := by
  simp [GRef15App.enc, List.getElem?_append]
theorem pt90_0 (w : World) (x : GRef15App) : (part 81 x.enc.toArray 0).run Tryz.prog w = .ok (.pointer x.h) w := run_part_one na81 us81 (lk90_0 x)
@[go_sem ↓ high] theorem fd90_0 (w : World) (x : GRef15App) : (gField 90 (GRef15App.val x) 0).run Tryz.prog w = .ok (.pointer x.h) w := by
  rw [GRef15App.val_eq]
  exact run_gField w uu90 (by rw [fl90]; rfl) (pt90_0 w x)
theorem lk90_1 (x : GRef15App) : x.enc[1]? = some (.pointer x.r) := by
  simp [GRef15App.enc, List.getElem?_append]
theorem pt90_1 (w : World) (x : GRef15App) : (part 85 x.enc.toArray 1).run Tryz.prog w = .ok (.pointer x.r) w := run_part_one na85 us85 (lk90_1 x)
@[go_sem ↓ high] theorem fd90_1 (w : World) (x : GRef15App) : (gField 90 (GRef15App.val x) 1).run Tryz.prog w = .ok (.pointer x.r) w := by
  rw [GRef15App.val_eq]
  exact run_gField w uu90 (by rw [fl90]; rfl) (pt90_1 w x)
theorem lk90_2 (x : GRef15App) : x.enc[2]? = some (.int .i64 x.n) := by
  simp [GRef15App.enc, List.getElem?_append]
theorem pt90_2 (w : World) (x : GRef15App) : (part 3 x.enc.toArray 2).run Tryz.prog w = .ok (.int .i64 x.n) w := run_part_one na3 us3 (lk90_2 x)
@[go_sem ↓ high] theorem fd90_2 (w : World) (x : GRef15App) : (gField 90 (GRef15App.val x) 2).run Tryz.prog w = .ok (.int .i64 x.n) w := by
  rw [GRef15App.val_eq]
  exact run_gField w uu90 (by rw [fl90]; rfl) (pt90_2 w x)
@[go_sem ↓ high] theorem xf_GRef15App (ρ : Operand → Value) (dst : Option Tmp) (x : Operand) (i : Nat) (ty : TypeId) (pos : String) (after : Array Edge) (guard : Option (Nat × Bool)) : execOp ρ { dst, op := .field 90 x i, type := ty, pos, after, guard } = (do pure (.value (← gField 90 (ρ x) i))) := ex_field ..
theorem zr90 : zeroT Tryz.prog 90 = some (.agg (GRef15App.enc default).toArray) := by kernel_rfl
@[go_sem ↓ high] theorem al_GRef15App (w : World) : (gAlloc 90).run Tryz.prog w = .ok (.pointer (some ⟨w.heap.size, 0, none⟩)) (w.alloc (.cells (GRef15App.enc default).toArray 90)) := run_zero_alloc zr90 w
@[go_sem] theorem pc_GRef15App (w : World) (n : Nat) (x z : GRef15App) (hn : n = w.heap.size) : World.putCells (w.alloc (.cells (GRef15App.enc z).toArray 90)) ⟨n, 0, none⟩ (GRef15App.enc x) = w.alloc (.cells (GRef15App.enc x).toArray 90) := putCells_top x z hn
theorem GRef15App.at_h {w : World} {a : Addr} {x : GRef15App} (h : get? GRef15App w a = some x) : w.cell? (a.add 0) = some (.pointer x.h) := (get?_iff.1 h) _ _ (lk90_0 x)
theorem GRef15App.at_r {w : World} {a : Addr} {x : GRef15App} (h : get? GRef15App w a = some x) : w.cell? (a.add 1) = some (.pointer x.r) := (get?_iff.1 h) _ _ (lk90_1 x)
theorem GRef15App.at_n {w : World} {a : Addr} {x : GRef15App} (h : get? GRef15App w a = some x) : w.cell? (a.add 2) = some (.int .i64 x.n) := (get?_iff.1 h) _ _ (lk90_2 x)
@[go_sem] theorem nl90_0 (x : GRef15App) : x.enc[0]? = some (.pointer x.h) := by
  have h := (GRef15App.at_h (get?_new (w := (default : World)) 90 x))
  simp only [Addr.add_lit, Nat.zero_add, Nat.reduceAdd, World.cell?_alloc_new, List.getElem?_toArray] at h
  exact h
@[go_sem] theorem nl90_1 (x : GRef15App) : x.enc[1]? = some (.pointer x.r) := by
  have h := (GRef15App.at_r (get?_new (w := (default : World)) 90 x))
  simp only [Addr.add_lit, Nat.zero_add, Nat.reduceAdd, World.cell?_alloc_new, List.getElem?_toArray] at h
  exact h
@[go_sem] theorem nl90_2 (x : GRef15App) : x.enc[2]? = some (.int .i64 x.n) := by
  have h := (GRef15App.at_n (get?_new (w := (default : World)) 90 x))
  simp only [Addr.add_lit, Nat.zero_add, Nat.reduceAdd, World.cell?_alloc_new, List.getElem?_toArray] at h
  exact h
@[go_sem] theorem nw90 (w : World) (n : Nat) (x : GRef15App) (hn : n = w.heap.size) : get? GRef15App (w.alloc (.cells (GRef15App.enc x).toArray 90)) ⟨n, 0, none⟩ = some x := by
  subst hn; exact get?_new 90 x
theorem pl90 : ((Tryz.prog.fieldsOf 90).toList.mapM fun f => (Tryz.prog.info? f.type).map fun i => (f.offset, i.size)) = some [(0, 1), (1, 1), (2, 1)] := by kernel_rfl
theorem fs90_0 (x : GRef15App) (v : Option Addr) (rest : List (Nat × Value)) : Instr.fill (fun i => ([(0, 1), (1, 1), (2, 1)] : List (Nat × Nat))[i]?) x.enc.toArray ((0, (.pointer v)) :: rest) = Instr.fill (fun i => ([(0, 1), (1, 1), (2, 1)] : List (Nat × Nat))[i]?) ({ x with h := v } : GRef15App).enc.toArray rest := by
  have h := fill_seg [(0, 1), (1, 1), (2, 1)] 0 0 1 rfl (([] : List Value)) ([(.pointer x.h)]) ([(.pointer x.r)] ++ ([(.int .i64 x.n)] ++ (([] : List Value)))) ([(.pointer v)]) (.pointer v) rest (rfl) (by simp) (by simp) (by simp)
  have e1 : x.enc = (([] : List Value)) ++ ([(.pointer x.h)] ++ ([(.pointer x.r)] ++ ([(.int .i64 x.n)] ++ (([] : List Value))))) := by simp [GRef15App.enc]
  have e2 : ({ x with h := v } : GRef15App).enc = (([] : List Value)) ++ ([(.pointer v)] ++ ([(.pointer x.r)] ++ ([(.int .i64 x.n)] ++ (([] : List Value))))) := by simp [GRef15App.enc]
  rw [e1, e2]; exact h
theorem fs90_1 (x : GRef15App) (v : Option Addr) (rest : List (Nat × Value)) : Instr.fill (fun i => ([(0, 1), (1, 1), (2, 1)] : List (Nat × Nat))[i]?) x.enc.toArray ((1, (.pointer v)) :: rest) = Instr.fill (fun i => ([(0, 1), (1, 1), (2, 1)] : List (Nat × Nat))[i]?) ({ x with r := v } : GRef15App).enc.toArray rest := by
  have h := fill_seg [(0, 1), (1, 1), (2, 1)] 1 1 1 rfl (([] : List Value) ++ ([(.pointer x.h)])) ([(.pointer x.r)]) ([(.int .i64 x.n)] ++ (([] : List Value))) ([(.pointer v)]) (.pointer v) rest (rfl) (by simp) (by simp) (by simp)
  have e1 : x.enc = (([] : List Value) ++ ([(.pointer x.h)])) ++ ([(.pointer x.r)] ++ ([(.int .i64 x.n)] ++ (([] : List Value)))) := by simp [GRef15App.enc]
  have e2 : ({ x with r := v } : GRef15App).enc = (([] : List Value) ++ ([(.pointer x.h)])) ++ ([(.pointer v)] ++ ([(.int .i64 x.n)] ++ (([] : List Value)))) := by simp [GRef15App.enc]
  rw [e1, e2]; exact h
@[go_sem ↓ high] theorem xd_GRef15App (ρ : Operand → Value) (dst : Option Tmp) (ps : Array (Nat × Operand)) (ty : TypeId) (pos : String) (after : Array Edge) (guard : Option (Nat × Bool)) : execOp ρ { dst, op := .build 90 ps, type := ty, pos, after, guard } = (do pure (.value (← gBuild 90 (ps.map fun (i, x) => (i, ρ x))))) := ex_build ..
@[go_sem ↓ high] theorem bd90_0 (w : World) (v0 : Option Addr) (v1 : Option Addr) : (gBuild 90 #[(0, (.pointer v0)), (1, (.pointer v1))]).run Tryz.prog w = .ok (GRef15App.val ⟨v0, v1, 0⟩) w := by
  rw [GRef15App.val_eq]
  refine run_gBuild_of uu90 zr90 pl90 ?_ w
  show Instr.fill _ (GRef15App.enc default).toArray [(0, (.pointer v0)), (1, (.pointer v1))] = _
  rw [fs90_0, fs90_1]; rfl
/-! ### []gavelref15.sale -/
theorem ei82 : ElemI Tryz.prog 82 137 GRef15Sale 104 := ⟨by kernel_rfl, by kernel_rfl⟩
@[go_sem ↓ high] theorem xg_82 (ρ : Operand → Value) (dst : Option Tmp) (ps : Array (Nat × Operand)) (ty : TypeId) (pos : String) (after : Array Edge) (guard : Option (Nat × Bool)) : execOp ρ { dst, op := .buildSlice 82 1 ps, type := ty, pos, after, guard } = (do pure (.value (← gBuildSlice 82 1 (ps.map fun (i, x) => (i, ρ x))))) := ex_buildSlice ..
@[go_sem ↓ high] theorem bs_82 (w : World) (x : GRef15Sale) : (gBuildSlice 82 1 #[(0, GRef15Sale.val x)]).run Tryz.prog w = .ok (.slice (some ⟨w.heap.size, 0, none⟩) 1 1) (w.alloc (.cells (GRef15Sale.enc x).toArray 137)) := by
  rw [GRef15Sale.val_eq]; exact run_buildSlice_one ei82 (by decide) x w
/-! ### []gavelref15.bid -/
theorem ei135 : ElemI Tryz.prog 135 141 GRef15Bid 16 := ⟨by kernel_rfl, by kernel_rfl⟩
@[go_sem ↓ high] theorem xg_135 (ρ : Operand → Value) (dst : Option Tmp) (ps : Array (Nat × Operand)) (ty : TypeId) (pos : String) (after : Array Edge) (guard : Option (Nat × Bool)) : execOp ρ { dst, op := .buildSlice 135 1 ps, type := ty, pos, after, guard } = (do pure (.value (← gBuildSlice 135 1 (ps.map fun (i, x) => (i, ρ x))))) := ex_buildSlice ..
@[go_sem ↓ high] theorem bs_135 (w : World) (x : GRef15Bid) : (gBuildSlice 135 1 #[(0, GRef15Bid.val x)]).run Tryz.prog w = .ok (.slice (some ⟨w.heap.size, 0, none⟩) 1 1) (w.alloc (.cells (GRef15Bid.enc x).toArray 141)) := by
  rw [GRef15Bid.val_eq]; exact run_buildSlice_one ei135 (by decide) x w
/-! ### []gavelref15.Result -/
theorem ei91 : ElemI Tryz.prog 91 94 GRef15Result 32 := ⟨by kernel_rfl, by kernel_rfl⟩
@[go_sem ↓ high] theorem xg_91 (ρ : Operand → Value) (dst : Option Tmp) (ps : Array (Nat × Operand)) (ty : TypeId) (pos : String) (after : Array Edge) (guard : Option (Nat × Bool)) : execOp ρ { dst, op := .buildSlice 91 1 ps, type := ty, pos, after, guard } = (do pure (.value (← gBuildSlice 91 1 (ps.map fun (i, x) => (i, ρ x))))) := ex_buildSlice ..
@[go_sem ↓ high] theorem bs_91 (w : World) (x : GRef15Result) : (gBuildSlice 91 1 #[(0, GRef15Result.val x)]).run Tryz.prog w = .ok (.slice (some ⟨w.heap.size, 0, none⟩) 1 1) (w.alloc (.cells (GRef15Result.enc x).toArray 94)) := by
  rw [GRef15Result.val_eq]; exact run_buildSlice_one ei91 (by decide) x w
/-! ### []gavelref15.owned -/
theorem ei86 : ElemI Tryz.prog 86 143 GRef15Owned 24 := ⟨by kernel_rfl, by kernel_rfl⟩
@[go_sem ↓ high] theorem xg_86 (ρ : Operand → Value) (dst : Option Tmp) (ps : Array (Nat × Operand)) (ty : TypeId) (pos : String) (after : Array Edge) (guard : Option (Nat × Bool)) : execOp ρ { dst, op := .buildSlice 86 1 ps, type := ty, pos, after, guard } = (do pure (.value (← gBuildSlice 86 1 (ps.map fun (i, x) => (i, ρ x))))) := ex_buildSlice ..
@[go_sem ↓ high] theorem bs_86 (w : World) (x : GRef15Owned) : (gBuildSlice 86 1 #[(0, GRef15Owned.val x)]).run Tryz.prog w = .ok (.slice (some ⟨w.heap.size, 0, none⟩) 1 1) (w.alloc (.cells (GRef15Owned.enc x).toArray 143)) := by
  rw [GRef15Owned.val_eq]; exact run_buildSlice_one ei86 (by decide) x w

end Go.Proofs.YteockodnfempfaaGreatDoor
/- What a list of pairs has at a key. Conditions: those named in each theorem. -/
namespace Go.Proofs.YteockodnfempfaaGreatDoor
open Go Go.RowKit Go.Gv
theorem mgetMem {K V : Type} [DecidableEq K] : ∀ {m : List (K × V)}, (m.map (·.1)).Nodup → ∀ {k : K} {v : V}, mget m k = some v ↔ (k, v) ∈ m
  | [], _, k, v => by simp [mget_nil]
  | p :: m, hn, k, v => by
    rw [List.map_cons, List.nodup_cons] at hn
    rw [mget_cons, List.mem_cons]
    by_cases e : p.1 = k
    · rw [if_pos e]
      constructor
      · intro h; injection h with h; left; rw [← e, ← h]
      · rintro (h | h)
        · rw [← h]
        · exact absurd (List.mem_map.2 ⟨_, h, e.symm⟩) hn.1
    · rw [if_neg e, mgetMem hn.2]
      constructor
      · exact .inr
      · rintro (h | h)
        · exact absurd (by rw [← h]) e
        · exact h
end Go.Proofs.YteockodnfempfaaGreatDoor
/- How auctions end, in plain words. Conditions: those named in each theorem. -/
namespace Go.Proofs.YteockodnfempfaaGreatDoor
open Go Go.RowKit Go.Gv Go.Sort

def maxP (r : Int) (L : List GAuctionBid) : Int := L.foldl (fun m c => max m c.amount) r
def MaxIs (r : Int) (L : List GAuctionBid) (m : Int) : Prop := (m = r ∨ ∃ c ∈ L, m = c.amount) ∧ r ≤ m ∧ ∀ c ∈ L, c.amount ≤ m
theorem maxP_is : ∀ (L : List GAuctionBid) (r : Int), MaxIs r L (maxP r L)
  | [], r => ⟨.inl rfl, Int.le_refl _, by simp⟩
  | c :: L, r => by
    have ih := maxP_is L (max r c.amount)
    have e : maxP r (c :: L) = maxP (max r c.amount) L := rfl
    rw [e]
    obtain ⟨h1, h2, h3⟩ := ih
    refine ⟨?_, by omega, fun d hd => ?_⟩
    · rcases h1 with h1 | ⟨d, hd, h1⟩
      · by_cases h : c.amount ≤ r
        · left; omega
        · right; exact ⟨c, by simp, by omega⟩
      · right; exact ⟨d, by simp [hd], h1⟩
    · rcases List.mem_cons.1 hd with rfl | hd
      · omega
      · exact h3 d hd
theorem MaxIs.unique {r m n : Int} {L M : List GAuctionBid} (h : MaxIs r L m) (h' : MaxIs r M n) (hLM : ∀ c, c ∈ L ↔ c ∈ M) : m = n := by
  obtain ⟨h1, h2, h3⟩ := h
  obtain ⟨k1, k2, k3⟩ := h'
  have a : m ≤ n := by
    rcases h1 with h1 | ⟨c, hc, h1⟩
    · omega
    · have := k3 c ((hLM c).1 hc); omega
  have b : n ≤ m := by
    rcases k1 with k1 | ⟨c, hc, k1⟩
    · omega
    · have := h3 c ((hLM c).2 hc); omega
  omega
theorem maxP_snoc (r : Int) (L : List GAuctionBid) (c : GAuctionBid) : maxP r (L ++ [c]) = max (maxP r L) c.amount := by unfold maxP; simp
def atLeast (s : MSale) : List GAuctionBid := s.bids.filter fun b => decide (s.reserve ≤ b.amount)
theorem endR_none {s : MSale} (h : atLeast s = []) : endR s = ⟨s.name, -1, 0⟩ := by
  have e : endBids s = [] := by
    unfold endBids
    unfold atLeast at h
    rw [h]; rfl
  unfold endR
  rw [e]
theorem endR_first {s : MSale} {pre post : List GAuctionBid} {b : GAuctionBid} (hF : atLeast s = pre ++ b :: post) (h1 : ∀ x ∈ pre, x.amount < b.amount) (h2 : ∀ x ∈ post, x.amount ≤ b.amount) :
    endR s = ⟨s.name, b.client, if s.vickrey = true then maxP s.reserve (pre ++ post) else b.amount⟩ := by
  have hE : endBids s = sortL GAuctionBid.amount (pre ++ b :: post) := by unfold endBids; unfold atLeast at hF; rw [hF]
  have hh := head_sortL (key := GAuctionBid.amount) h1 h2
  have hp := perm_sortL (key := GAuctionBid.amount) (pre ++ b :: post)
  have hf := falls_sortL GAuctionBid.amount (pre ++ b :: post)
  cases hs : sortL GAuctionBid.amount (pre ++ b :: post) with
  | nil => rw [hs] at hh; simp at hh
  | cons b' t =>
    rw [hs] at hh hp hf hE
    simp only [List.head?_cons, Option.some.injEq] at hh
    subst hh
    have ht : t.Perm (pre ++ post) := List.Perm.cons_inv (hp.trans List.perm_middle)
    unfold endR
    rw [hE]
    simp only [endPrice]
    by_cases hv : s.vickrey = true
    · rw [if_pos hv, if_pos hv]
      have hmem : ∀ c, c ∈ t ↔ c ∈ pre ++ post := fun c => ht.mem_iff
      cases t with
      | nil =>
        have : pre ++ post = [] := List.eq_nil_of_length_eq_zero (by have := ht.length_eq; simpa using this.symm)
        rw [this]; rfl
      | cons c t' =>
        simp only
        have hc : s.reserve ≤ c.amount := by
          have h3 : c ∈ atLeast s := by
            rw [hF]
            have := (hmem c).1 (by simp)
            rw [List.mem_append] at this ⊢
            rcases this with h | h
            · exact .inl h
            · exact .inr (by simp [h])
          unfold atLeast at h3
          rw [List.mem_filter] at h3
          simpa using h3.2
        have hm : MaxIs s.reserve (c :: t') c.amount := by
          refine ⟨.inr ⟨c, by simp, rfl⟩, hc, fun d hd => ?_⟩
          rcases List.mem_cons.1 hd with rfl | hd
          · exact Int.le_refl _
          · have h5 := (List.pairwise_cons.1 (List.pairwise_cons.1 hf).2).1 d hd
            exact h5
        rw [hm.unique (maxP_is (pre ++ post) s.reserve) hmem]
    · rw [if_neg hv, if_neg hv]

/-! ### The best of a list of amounts -/
def bidsOf (f : Nat → Int → Int) (l : List Int) : List GAuctionBid := l.mapIdx fun i a => ⟨(i : Int), f i a⟩
theorem bidsOf_snoc (f : Nat → Int → Int) (l : List Int) (x : Int) : bidsOf f (l ++ [x]) = bidsOf f l ++ [⟨(l.length : Int), f l.length x⟩] := by unfold bidsOf; simp [List.mapIdx_append]
theorem bidsOf_len (f : Nat → Int → Int) (l : List Int) : (bidsOf f l).length = l.length := by unfold bidsOf; simp
theorem bidsOf_get {f : Nat → Int → Int} {l : List Int} {i : Nat} {b : GAuctionBid} (h : (bidsOf f l)[i]? = some b) : ∃ a, l[i]? = some a ∧ b = ⟨(i : Int), f i a⟩ := by
  unfold bidsOf at h
  rw [List.getElem?_mapIdx] at h
  cases hl : l[i]? with
  | none => rw [hl] at h; cases h
  | some a => rw [hl] at h; simp at h; exact ⟨a, rfl, h.symm⟩
/-- b is the place of the first of the greatest that are at least r (-1: there are none). -/
def BestAt (r : Int) (l : List Int) (b : Int) : Prop :=
  (b = -1 ∧ ∀ x ∈ l, x < r) ∨ ∃ (k : Nat) (a : Int), b = k ∧ l[k]? = some a ∧ r ≤ a ∧ (∀ (j : Nat) (x : Int), l[j]? = some x → j < k → x < a) ∧ ∀ (j : Nat) (x : Int), l[j]? = some x → x ≤ a
theorem BestAt.nil (r : Int) : BestAt r [] (-1) := .inl ⟨rfl, by simp⟩
theorem get_snoc {l : List Int} {x y : Int} {j : Nat} (h : (l ++ [x])[j]? = some y) : (j < l.length ∧ l[j]? = some y) ∨ (j = l.length ∧ y = x) := by
  rcases Nat.lt_or_ge j l.length with hj | hj
  · rw [List.getElem?_append_left hj] at h; exact .inl ⟨hj, h⟩
  · rw [List.getElem?_append_right hj] at h
    have : j - l.length = 0 := by
      cases hq : j - l.length with
      | zero => rfl
      | succ q => rw [hq] at h; simp at h
    rw [this] at h
    simp at h
    exact .inr ⟨by omega, h.symm⟩
theorem BestAt.same {r : Int} {l : List Int} {b x : Int} (h : BestAt r l b) (hx : x < r ∨ ∃ (k : Nat) (a : Int), b = k ∧ l[k]? = some a ∧ x ≤ a) : BestAt r (l ++ [x]) b := by
  rcases h with ⟨rfl, h⟩ | ⟨k, a, rfl, h1, h2, h3, h4⟩
  · rcases hx with hx | ⟨k, a, e, _⟩
    · refine .inl ⟨rfl, fun y hy => ?_⟩
      rw [List.mem_append, List.mem_singleton] at hy
      rcases hy with hy | rfl
      · exact h y hy
      · exact hx
    · omega
  · have hxa : x ≤ a := by
      rcases hx with hx | ⟨k', a', e, e2, e3⟩
      · omega
      · have : k' = k := by omega
        subst this
        rw [h1] at e2; injection e2 with e2; omega
    have hkl : k < l.length := (List.getElem?_eq_some_iff.1 h1).1
    refine .inr ⟨k, a, rfl, by rw [List.getElem?_append_left hkl]; exact h1, h2, fun j y hy hj => ?_, fun j y hy => ?_⟩
    · rcases get_snoc hy with ⟨_, h⟩ | ⟨e, _⟩
      · exact h3 j y h hj
      · omega
    · rcases get_snoc hy with ⟨_, h⟩ | ⟨_, rfl⟩
      · exact h4 j y h
      · exact hxa
theorem BestAt.new {r : Int} {l : List Int} {b x : Int} (h : BestAt r l b) (hr : r ≤ x) (hx : b < 0 ∨ ∃ (k : Nat) (a : Int), b = k ∧ l[k]? = some a ∧ a < x) : BestAt r (l ++ [x]) (l.length : Int) := by
  have hall : ∀ (j : Nat) (y : Int), l[j]? = some y → y < x := by
    intro j y hy
    rcases h with ⟨rfl, h⟩ | ⟨k, a, rfl, h1, h2, h3, h4⟩
    · have := h y (List.mem_of_getElem? hy); omega
    · have := h4 j y hy
      rcases hx with hx | ⟨k', a', e, e2, e3⟩
      · omega
      · have : k' = k := by omega
        subst this
        rw [h1] at e2; injection e2 with e2; omega
  refine .inr ⟨l.length, x, rfl, by simp, hr, fun j y hy hj => ?_, fun j y hy => ?_⟩
  · rcases get_snoc hy with ⟨_, h⟩ | ⟨e, _⟩
    · exact hall j y h
    · omega
  · rcases get_snoc hy with ⟨_, h⟩ | ⟨_, rfl⟩
    · have := hall j y h; omega
    · exact Int.le_refl _
/-- The others that reach r. -/
def others (r : Int) (k : Int) (l : List GAuctionBid) : List GAuctionBid := l.filter fun c => decide (r ≤ c.amount) && !decide (c.client = k)
/-- How it ends for bids by places, where f raises the best alone. -/
theorem endR_best {s : MSale} {f : Nat → Int → Int} {l : List Int} {k : Nat} {a : Int} (hb : s.bids = bidsOf f l) (hk : l[k]? = some a) (hr : s.reserve ≤ f k a) (h3 : ∀ (j : Nat) (x : Int), l[j]? = some x → j < k → f j x < f k a) (h4 : ∀ (j : Nat) (x : Int), l[j]? = some x → f j x ≤ f k a) :
    endR s = ⟨s.name, (k : Int), if s.vickrey = true then maxP s.reserve (others s.reserve k (bidsOf f l)) else f k a⟩ := by
  obtain ⟨bs, hbs⟩ : ∃ bs, bidsOf f l = bs := ⟨_, rfl⟩
  have hkl : k < l.length := (List.getElem?_eq_some_iff.1 hk).1
  have hkb : bs[k]? = some ⟨(k : Int), f k a⟩ := by
    rw [← hbs]; unfold bidsOf; rw [List.getElem?_mapIdx, hk]; rfl
  have hget : ∀ {i : Nat} {b : GAuctionBid}, bs[i]? = some b → ∃ a, l[i]? = some a ∧ b = ⟨(i : Int), f i a⟩ := fun h => bidsOf_get (hbs ▸ h)
  have hkl2 : k < bs.length := (List.getElem?_eq_some_iff.1 hkb).1
  have hsplit : bs = bs.take k ++ (⟨(k : Int), f k a⟩ : GAuctionBid) :: bs.drop (k + 1) := by
    have e := (List.getElem?_eq_some_iff.1 hkb).2
    conv => lhs; rw [← List.take_append_drop k bs, List.drop_eq_getElem_cons hkl2, e]
  have hpre : ∀ c ∈ bs.take k, ∃ j x, j < k ∧ l[j]? = some x ∧ c = ⟨(j : Int), f j x⟩ := by
    intro c hc
    obtain ⟨j, hj⟩ := List.getElem?_of_mem hc
    rw [List.getElem?_take] at hj
    split at hj
    · rename_i hjk
      obtain ⟨x, h1, h2⟩ := hget hj
      exact ⟨j, x, hjk, h1, h2⟩
    · cases hj
  have hpost : ∀ c ∈ bs.drop (k + 1), ∃ j x, k < j ∧ l[j]? = some x ∧ c = ⟨(j : Int), f j x⟩ := by
    intro c hc
    obtain ⟨j, hj⟩ := List.getElem?_of_mem hc
    rw [List.getElem?_drop] at hj
    obtain ⟨x, h1, h2⟩ := hget hj
    exact ⟨k + 1 + j, x, by omega, h1, h2⟩
  have hF : atLeast s = (bs.take k).filter (fun b => decide (s.reserve ≤ b.amount)) ++ (⟨(k : Int), f k a⟩ : GAuctionBid) :: (bs.drop (k + 1)).filter (fun b => decide (s.reserve ≤ b.amount)) := by
    unfold atLeast
    rw [hb, hbs]
    conv => lhs; rw [hsplit]
    rw [List.filter_append, List.filter_cons]
    simp [hr]
  have hO : others s.reserve k bs = (bs.take k).filter (fun b => decide (s.reserve ≤ b.amount)) ++ (bs.drop (k + 1)).filter (fun b => decide (s.reserve ≤ b.amount)) := by
    unfold others
    conv => lhs; rw [hsplit]
    rw [List.filter_append, List.filter_cons]
    simp only [decide_true, Bool.not_true, Bool.and_false, Bool.false_eq_true, if_false]
    congr 1
    · apply List.filter_congr
      intro c hc
      obtain ⟨j, x, h1, _, rfl⟩ := hpre c hc
      have : ¬ (j : Int) = k := by omega
      simp [this]
    · apply List.filter_congr
      intro c hc
      obtain ⟨j, x, h1, _, rfl⟩ := hpost c hc
      have : ¬ (j : Int) = k := by omega
      simp [this]
  rw [hbs, hO]
  refine endR_first hF (fun c hc => ?_) (fun c hc => ?_)
  · obtain ⟨j, x, h1, h2, rfl⟩ := hpre c (List.mem_filter.1 hc).1
    exact h3 j x h2 h1
  · obtain ⟨j, x, h1, h2, rfl⟩ := hpost c (List.mem_filter.1 hc).1
    exact h4 j x h2
/-- Bids by places, all unlike: whatever their order, one end. -/
theorem endR_perm {s t : MSale} (hn : s.name = t.name) (hv : s.vickrey = t.vickrey) (hr : s.reserve = t.reserve) (hp : s.bids.Perm t.bids) (hu : s.bids.Pairwise fun a b => a.amount ≠ b.amount) : endR s = endR t := by
  have hF : (atLeast s).Perm (atLeast t) := by unfold atLeast; rw [hr]; exact hp.filter _
  have huF : (atLeast s).Pairwise fun a b => a.amount ≠ b.amount := hu.filter _
  have huT : (atLeast t).Pairwise fun a b => a.amount ≠ b.amount := (hF.pairwise_iff (fun {_ _} h => Ne.symm h)).1 huF
  have key : ∀ (l m : List GAuctionBid), l.Perm m → Falls GAuctionBid.amount l → Falls GAuctionBid.amount m → (l.Pairwise fun a b => a.amount ≠ b.amount) → l = m := by
    intro l
    induction l with
    | nil => intro m h _ _ _; exact (List.eq_nil_of_length_eq_zero (by simpa using h.length_eq.symm)).symm
    | cons a l ih =>
      intro m h hl hm hu
      cases m with
      | nil => have := h.length_eq; simp at this
      | cons b m =>
        unfold Falls at hl hm
        rw [List.pairwise_cons] at hl hm hu
        have e : a = b := by
          have h1 : a ∈ b :: m := h.mem_iff.1 (by simp)
          have h2 : b ∈ a :: l := h.mem_iff.2 (by simp)
          rcases List.mem_cons.1 h1 with h1 | h1
          · exact h1
          · rcases List.mem_cons.1 h2 with h2 | h2
            · exact h2.symm
            · have k1 := hm.1 a h1
              have k2 := hl.1 b h2
              exact absurd (by omega) (hu.1 b h2)
        subst e
        rw [ih m h.cons_inv hl.2 hm.2 hu.2]
  have hE : endBids s = endBids t := by
    have e1 : endBids s = sortL GAuctionBid.amount (atLeast s) := rfl
    have e2 : endBids t = sortL GAuctionBid.amount (atLeast t) := rfl
    rw [e1, e2]
    refine key _ _ (((perm_sortL (key := GAuctionBid.amount) _).trans hF).trans (perm_sortL (key := GAuctionBid.amount) _).symm) (falls_sortL _ _) (falls_sortL _ _) ?_
    exact ((perm_sortL (key := GAuctionBid.amount) (atLeast s)).pairwise_iff (fun {_ _} h => Ne.symm h)).2 huF
  unfold endR
  rw [hE, hn]
  cases endBids t with
  | nil => rfl
  | cons b r =>
    simp only [endPrice, hv, hr]

/-! ### A house of one auction -/
theorem mset_one {V : Type} (k : ByteArray) (x y : V) : mset [(k, x)] k y = [(k, y)] := by unfold mset; simp
theorem mget_one {V : Type} (k : ByteArray) (x : V) : mget [(k, x)] k = some x := by rw [mget_cons, if_pos rfl]
theorem dueM_one (k : ByteArray) (x : MSale) (now : Int) : dueM [(k, x)] now = if dueB now x = true then [x] else [] := by
  unfold dueM
  by_cases h : dueB now x = true <;> simp [h]
theorem settle_one (k : ByteArray) (x : MSale) (now : Int) : settleH [(k, x)] now = [(k, if dueB now x = true then doneM x else x)] := by
  unfold settleH
  by_cases h : dueB now x = true <;> simp [h]
theorem perm_one {α : Type} {D : List α} {x : α} (h : D.Perm [x]) : D = [x] := List.perm_singleton.1 h
theorem perm_none {α : Type} {D : List α} (h : D.Perm []) : D = [] := List.perm_nil.1 h
end Go.Proofs.YteockodnfempfaaGreatDoor
/- A house of one auction: what each call does to it. Conditions: those named in each theorem. -/
namespace Go.Proofs.YteockodnfempfaaGreatDoor
open Go Go.RowKit Go.Gv Go.Sort

theorem open_is (c : Int) (H' : MHouse) (p : Addr) (r : Nat) (H : MHouse) (name : ByteArray) (v : Bool) (reserve close now : Int) (w : World) (ho : openR H name reserve close now = c) (hO : openH H name v reserve close now = H') (hH : HouseIs w p r H) (hp : p.block ≠ r) (hn : name.size ≤ maxLen) (hlen : H.length ≤ maxLen) :
    Calls Tryz.prog 28 #[.pointer (some p), .string name, .bool v, .int .i64 reserve, .int .u64 close, .int .u64 now] w fun e w' => e = .returned (.int .i64 c) ∧ HouseIs w' p r H' ∧ GX r w w' := by
  subst ho; subst hO; exact open_any p r H name v reserve close now w hH hp hn hlen
theorem bid_is (c : Int) (H' : MHouse) (p : Addr) (r : Nat) (H : MHouse) (name : ByteArray) (client amount now : Int) (w : World) (ho : bidR H name client amount now = c) (hO : bidH H name client amount now = H') (hH : HouseIs w p r H) (hp : p.block ≠ r) (hbig : ∀ x, mget H name = some x → x.bids.length ≤ 1000000) :
    Calls Tryz.prog 41 #[.pointer (some p), .string name, .int .i64 client, .int .i64 amount, .int .u64 now] w fun e w' => e = .returned (.int .i64 c) ∧ HouseIs w' p r H' ∧ GX r w w' := by
  subst ho; subst hO; exact bid_any p r H name client amount now w hH hp hbig
theorem openH_no {H : MHouse} {name : ByteArray} {v : Bool} {reserve close now : Int} (h : openR H name reserve close now ≠ 0) : openH H name v reserve close now = H := by unfold openH; rw [if_neg h]
theorem open_first {name : ByteArray} {reserve close now : Int} (hn : nameB name = true) (h0 : 0 ≤ reserve) (h1 : reserve ≤ 1099511627776) (hc : now < close) : openR [] name reserve close now = 0 := by
  unfold openR badOpen
  have a : ¬ reserve < 0 := by omega
  have b : ¬ 1099511627776 < reserve := by omega
  have c : ¬ close ≤ now := by omega
  simp [hn, a, b, c, mget_nil]
theorem open_first_H {name : ByteArray} {v : Bool} {reserve close now : Int} (h : openR [] name reserve close now = 0) : openH [] name v reserve close now = [(name, newSale name v reserve close)] := by
  unfold openH
  rw [if_pos h]; unfold mset; simp
theorem open_there {k : ByteArray} {x : MSale} {reserve close now : Int} (hn : nameB k = true) (h0 : 0 ≤ reserve) (h1 : reserve ≤ 1099511627776) : openR [(k, x)] k reserve close now = 5 := by
  unfold openR badOpen
  have a : ¬ reserve < 0 := by omega
  have b : ¬ 1099511627776 < reserve := by omega
  rw [mget_one]
  simp [hn, a, b]
theorem bidR_one (k : ByteArray) (x : MSale) (c a now : Int) : bidR [(k, x)] k c a now = if x.settled = true ∨ x.close < now then 11 else if badBid c a = true then 1 else if hasBid x.bids c = true then 5 else 0 := by
  unfold bidR; rw [mget_one]
theorem bid_ok {k : ByteArray} {x : MSale} {c a now : Int} (hs : x.settled = false) (hc : now ≤ x.close) (hc0 : 0 ≤ c) (hc1 : c < 100) (ha0 : 1 ≤ a) (ha1 : a ≤ 1099511627776) (hn : hasBid x.bids c = false) : bidR [(k, x)] k c a now = 0 := by
  rw [bidR_one]
  unfold badBid
  have e1 : ¬ x.close < now := by omega
  have e2 : ¬ a < 1 := by omega
  have e3 : ¬ 1099511627776 < a := by omega
  have e4 : ¬ c < 0 := by omega
  have e5 : ¬ 100 ≤ c := by omega
  simp [hs, e1, e2, e3, e4, e5, hn]
theorem bid_ok_H {k : ByteArray} {x : MSale} {c a now : Int} (h : bidR [(k, x)] k c a now = 0) : bidH [(k, x)] k c a now = [(k, x.bid c a)] := by
  unfold bidH
  rw [mget_one]
  simp only
  rw [if_pos h, mset_one]
theorem bid_shut {k : ByteArray} {x : MSale} {c a now : Int} (h : x.settled = true ∨ x.close < now) : bidR [(k, x)] k c a now = 11 := by rw [bidR_one, if_pos h]
theorem bidH_no {k : ByteArray} {x : MSale} {c a now : Int} (h : bidR [(k, x)] k c a now ≠ 0) : bidH [(k, x)] k c a now = [(k, x)] := by
  unfold bidH
  rw [mget_one]
  simp only
  rw [if_neg h]
/-- A bid that is taken, by a house of one auction. -/
theorem bid_one (p : Addr) (r : Nat) (k : ByteArray) (x : MSale) (c a now : Int) (w : World) (hH : HouseIs w p r [(k, x)]) (hp : p.block ≠ r) (hs : x.settled = false) (hc : now ≤ x.close) (hc0 : 0 ≤ c) (hc1 : c < 100) (ha0 : 1 ≤ a) (ha1 : a ≤ 1099511627776) (hn : hasBid x.bids c = false) (hl : x.bids.length ≤ 1000) :
    Calls Tryz.prog 41 #[.pointer (some p), .string k, .int .i64 c, .int .i64 a, .int .u64 now] w fun e w' => e = .returned (.int .i64 0) ∧ HouseIs w' p r [(k, x.bid c a)] ∧ GX r w w' := by
  have h := bid_ok (k := k) hs hc hc0 hc1 ha0 ha1 hn
  refine bid_is 0 _ p r _ k c a now w h (bid_ok_H h) hH hp (fun y hy => ?_)
  rw [mget_one] at hy
  injection hy with hy; subst hy; omega
theorem bid_no (p : Addr) (r : Nat) (k : ByteArray) (x : MSale) (c a now : Int) (w : World) (hH : HouseIs w p r [(k, x)]) (hp : p.block ≠ r) (hs : x.settled = true ∨ x.close < now) (hl : x.bids.length ≤ 1000) :
    Calls Tryz.prog 41 #[.pointer (some p), .string k, .int .i64 c, .int .i64 a, .int .u64 now] w fun e w' => e = .returned (.int .i64 11) ∧ HouseIs w' p r [(k, x)] ∧ GX r w w' := by
  have h := bid_shut (k := k) (c := c) (a := a) hs
  refine bid_is 11 _ p r _ k c a now w h (bidH_no (by rw [h]; decide)) hH hp (fun y hy => ?_)
  rw [mget_one] at hy
  injection hy with hy; subst hy; omega
/-- What is due is settled: one result. -/
def SettledOne (w : World) (p : Addr) (r : Nat) (k : ByteArray) (x : MSale) (e : Ending) (w' : World) : Prop :=
  ∃ g c : Nat, e = .returned (.slice (some ⟨g, 0, none⟩) 1 c) ∧ get? GAuctionResult w' ⟨g, 0, none⟩ = some (endR x) ∧ w.heap.size ≤ g ∧ HouseIs w' p r [(k, doneM x)] ∧ GX r w w'
theorem settle_due (p : Addr) (r : Nat) (k : ByteArray) (x : MSale) (now : Int) (w : World) (hH : HouseIs w p r [(k, x)]) (hp : p.block ≠ r) (hk : x.name = k) (hs : x.settled = false) (hc : x.close < now) (hl : x.bids.length < 20) :
    Calls Tryz.prog 29 #[.pointer (some p), .int .u64 now] w (SettledOne w p r k x) := by
  have hd : dueB now x = true := by unfold dueB; simp [hs, hc]
  refine (settle_any p r [(k, x)] now w hH hp (fun q hq => ?_) (by simp) (fun q hq => ?_)).mono ?_
  · obtain rfl : q = (k, x) := by simpa using hq
    exact hk
  · obtain rfl : q = (k, x) := by simpa using hq
    exact Nat.le_of_lt (Nat.lt_of_lt_of_le hl (by decide))
  · rintro e w' ⟨D, v, rfl, hD, _, hown, hH', hg⟩
    rw [dueM_one, if_pos hd] at hD
    obtain rfl := perm_one hD
    rw [settle_one, if_pos hd] at hH'
    obtain ⟨A, c, rfl, hoa, _, _⟩ := OwnS.ownA hown
    obtain ⟨g, rfl, hg1, _, _⟩ := OwnA.place hoa (by simp)
    obtain ⟨ad, y, he, _, hy, hget⟩ := hoa.sl.at_ (k := 0) (by simp)
    obtain rfl : ad = ⟨g, 0, none⟩ := by injection he with he; exact he.symm
    rw [Nat.zero_mul, Addr.add_zero'] at hget
    simp at hy; subst hy
    exact ⟨g, c, rfl, hget, hg1, hH', hg⟩
def SettledNone (w : World) (p : Addr) (r : Nat) (k : ByteArray) (x : MSale) (e : Ending) (w' : World) : Prop :=
  ∃ (A : Option Addr) (c : Nat), e = .returned (.slice A 0 c) ∧ HouseIs w' p r [(k, x)] ∧ GX r w w'
theorem settle_not (p : Addr) (r : Nat) (k : ByteArray) (x : MSale) (now : Int) (w : World) (hH : HouseIs w p r [(k, x)]) (hp : p.block ≠ r) (hk : x.name = k) (hs : x.settled = true ∨ now ≤ x.close) (hl : x.bids.length < 20) :
    Calls Tryz.prog 29 #[.pointer (some p), .int .u64 now] w (SettledNone w p r k x) := by
  have hd : ¬ dueB now x = true := by
    unfold dueB
    rcases hs with h | h
    · simp [h]
    · have : ¬ x.close < now := by omega
      simp [this]
  refine (settle_any p r [(k, x)] now w hH hp (fun q hq => ?_) (by simp) (fun q hq => ?_)).mono ?_
  · obtain rfl : q = (k, x) := by simpa using hq
    exact hk
  · obtain rfl : q = (k, x) := by simpa using hq
    exact Nat.le_of_lt (Nat.lt_of_lt_of_le hl (by decide))
  · rintro e w' ⟨D, v, rfl, hD, _, hown, hH', hg⟩
    rw [dueM_one, if_neg hd] at hD
    obtain rfl := perm_none hD
    rw [settle_one, if_neg hd] at hH'
    obtain ⟨A, c, rfl, _, _, _⟩ := OwnS.ownA hown
    exact ⟨A, c, rfl, hH', hg⟩
end Go.Proofs.YteockodnfempfaaGreatDoor
/- The document's example of an auction. Conditions: none. -/
namespace Go.Proofs.YteockodnfempfaaGreatDoor
open Go Go.RowKit Go.Gv Go.Sort

theorem _root_.Go.Gv.Bel.gxb {w w1 w2 : World} {r : Nat} (hb : Bel w w1) (hg : GX r w1 w2) (hr : w.heap.size ≤ r) : Bel w w2 := Bel.grown hb hg (fun k hk => by injection hk with hk; omega)
def wakeS : MSale := ((newSale ⟨#[97]⟩ true 5 10).bid 1 9).bid 2 7
theorem wakeS_end : endR wakeS = ⟨⟨#[97]⟩, 1, 7⟩ := by
  have h : atLeast wakeS = [] ++ (⟨1, 9⟩ : GAuctionBid) :: [⟨2, 7⟩] := rfl
  rw [endR_first h (by simp) (by simp)]
  rfl
end Go.Proofs.YteockodnfempfaaGreatDoor
/- The document's house beside the program's, in plain words. Conditions: those named in each theorem. -/
namespace Go.Proofs.YteockodnfempfaaGreatDoor
open Go Go.RowKit Go.Gv Go.Sort

theorem bytes_eq {a b : ByteArray} (h : a.toList = b.toList) : a = b := by
  rw [ByteArray.toList_eq, ByteArray.toList_eq] at h
  exact ByteArray.ext (Array.toList_inj.1 h)
theorem name_tri (a b : ByteArray) : a.toList < b.toList ∨ a = b ∨ b.toList < a.toList := by
  by_cases h1 : a.toList < b.toList
  · exact .inl h1
  · by_cases h2 : b.toList < a.toList
    · exact .inr (.inr h2)
    · exact .inr (.inl (bytes_eq (List.le_antisymm h2 h1)))
/-- Auctions by their names, and the same by rising names. -/
structure Twin (H : MHouse) (R : List MSale) : Prop where
  perm : R.Perm (H.map (·.2))
  rise : R.Pairwise fun a b => a.name.toList < b.name.toList
  named : Named H
  nodup : (H.map (·.1)).Nodup
theorem Twin.nil : Twin [] [] := ⟨.refl _, .nil, fun _ h => by simp at h, by simp⟩
section
variable {H : MHouse} {R : List MSale}
theorem Twin.len (h : Twin H R) : R.length = H.length := by have := h.perm.length_eq; simpa using this
theorem named_keys (h : Named H) : H.map (·.1) = (H.map (·.2)).map (·.name) := by
  rw [List.map_map]
  exact List.map_congr_left fun q hq => (h q hq).symm
theorem Twin.names (h : Twin H R) : (R.map (·.name)).Perm (H.map (·.1)) := by
  rw [named_keys h.named]
  exact h.perm.map _
theorem Twin.get (h : Twin H R) {s : MSale} (hs : s ∈ R) : mget H s.name = some s := by
  have hs2 := h.perm.mem_iff.1 hs
  rw [List.mem_map] at hs2
  obtain ⟨q, hq, rfl⟩ := hs2
  rw [mgetMem h.nodup, h.named q hq]
  exact hq
theorem Twin.none (h : Twin H R) {k : ByteArray} (hn : ∀ s ∈ R, s.name ≠ k) : mget H k = none := by
  rw [mget_none]
  intro hk
  have := h.names.mem_iff.2 hk
  rw [List.mem_map] at this
  obtain ⟨s, hs, e⟩ := this
  exact hn s hs e
theorem Twin.rises (h : Twin H R) {i j : Nat} {s t : MSale} (hi : R[i]? = some s) (hj : R[j]? = some t) (hij : i < j) : s.name.toList < t.name.toList := by
  have h1 := (List.getElem?_eq_some_iff.1 hi)
  have h2 := (List.getElem?_eq_some_iff.1 hj)
  have := List.pairwise_iff_getElem.1 h.rise i j h1.1 h2.1 hij
  rw [h1.2, h2.2] at this
  exact this
theorem Twin.at_one (h : Twin H R) {i j : Nat} {s t : MSale} (hi : R[i]? = some s) (hj : R[j]? = some t) (e : s.name = t.name) : i = j := by
  rcases Nat.lt_trichotomy i j with h1 | h1 | h1
  · have := h.rises hi hj h1; rw [e] at this; exact absurd this (List.lt_irrefl _)
  · exact h1
  · have := h.rises hj hi h1; rw [e] at this; exact absurd this (List.lt_irrefl _)
/-- One more. -/
theorem Twin.ins (h : Twin H R) {x : MSale} (hnone : mget H x.name = Option.none) {i : Nat} (hi : i ≤ R.length) (h1 : i = 0 ∨ ∃ s, R[i - 1]? = some s ∧ ¬ x.name.toList < s.name.toList) (h2 : ∀ j s, i ≤ j → R[j]? = some s → x.name.toList < s.name.toList) :
    Twin (mset H x.name x) (R.take i ++ x :: R.drop i) := by
  have hk := mget_none.1 hnone
  have hm : mset H x.name x = H ++ [(x.name, x)] := by unfold mset; rw [if_neg hk]
  have hlo : ∀ s ∈ R.take i, s.name.toList < x.name.toList := by
    intro s hs
    rcases h1 with rfl | ⟨t, ht, hlt⟩
    · simp at hs
    · obtain ⟨j, hj⟩ := List.getElem?_of_mem hs
      rw [List.getElem?_take] at hj
      split at hj
      · rename_i hji
        have hne : ∀ u ∈ R, u.name ≠ x.name := fun u hu e => by
          have := h.get hu; rw [e, hnone] at this; cases this
        have htx : t.name.toList < x.name.toList := by
          rcases name_tri t.name x.name with h3 | h3 | h3
          · exact h3
          · exact absurd h3 (hne t (List.mem_of_getElem? ht))
          · exact absurd h3 hlt
        by_cases e : j = i - 1
        · subst e; rw [hj] at ht; injection ht with ht; subst ht; exact htx
        · exact List.lt_trans (h.rises hj ht (by omega)) htx
      · cases hj
  refine ⟨?_, ?_, ?_, ?_⟩
  · rw [hm, List.map_append]
    refine List.Perm.trans List.perm_middle ?_
    rw [List.take_append_drop]
    exact (List.Perm.cons x h.perm).trans (List.perm_append_comm (l₁ := [x]))
  · rw [List.pairwise_append]
    refine ⟨h.rise.sublist (List.take_sublist _ _), List.pairwise_cons.2 ⟨fun s hs => ?_, h.rise.sublist (List.drop_sublist _ _)⟩, fun a ha b hb => ?_⟩
    · obtain ⟨j, hj⟩ := List.getElem?_of_mem hs
      rw [List.getElem?_drop] at hj
      exact h2 _ _ (by omega) hj
    · rcases List.mem_cons.1 hb with rfl | hb
      · exact hlo a ha
      · obtain ⟨j, hj⟩ := List.getElem?_of_mem hb
        rw [List.getElem?_drop] at hj
        exact List.lt_trans (hlo a ha) (h2 _ _ (by omega) hj)
  · exact h.named.set rfl
  · exact mset_nodup h.nodup _ _
/-- One is turned. -/
theorem Twin.upd (h : Twin H R) {i : Nat} {s x : MSale} (hi : R[i]? = some s) (hx : x.name = s.name) : Twin (mset H s.name x) (R.set i x) := by
  have hmem := List.mem_of_getElem? hi
  have hk : s.name ∈ H.map (·.1) := h.names.mem_iff.1 (List.mem_map.2 ⟨s, hmem, rfl⟩)
  have hm : mset H s.name x = H.map fun p => if p.1 = s.name then (s.name, x) else p := by unfold mset; rw [if_pos hk]
  have hset : R.set i x = R.map fun t => if t.name = s.name then x else t := by
    apply List.ext_getElem?
    intro j
    rw [List.getElem?_map, List.getElem?_set]
    have hil := (List.getElem?_eq_some_iff.1 hi).1
    by_cases e : i = j
    · subst e
      rw [if_pos rfl, if_pos hil, hi]
      simp
    · rw [if_neg e]
      cases hj : R[j]? with
      | none => rfl
      | some t =>
        have : t.name ≠ s.name := fun e2 => e (h.at_one hi hj e2.symm)
        simp [this]
  refine ⟨?_, ?_, h.named.set hx, mset_nodup h.nodup _ _⟩
  · rw [hset, hm, List.map_map]
    have e : (H.map ((fun x => x.2) ∘ fun p => if p.1 = s.name then (s.name, x) else p)) = (H.map (·.2)).map fun t => if t.name = s.name then x else t := by
      rw [List.map_map]
      refine List.map_congr_left fun q hq => ?_
      simp only [Function.comp]
      rw [h.named q hq]
      split <;> rfl
    rw [e]
    exact h.perm.map _
  · rw [hset, List.pairwise_map]
    refine h.rise.imp fun {a b} hab => ?_
    have e1 : ∀ t : MSale, (if t.name = s.name then x else t).name = t.name := fun t => by
      split
      · rename_i e; rw [hx, e]
      · rfl
    rw [e1, e1]; exact hab
def settleL (R : List MSale) (now : Int) : List MSale := R.map fun s => if dueB now s = true then doneM s else s
theorem Twin.settle (h : Twin H R) (now : Int) : Twin (settleH H now) (settleL R now) := by
  refine ⟨?_, ?_, h.named.settle now, by rw [settleH_keys]; exact h.nodup⟩
  · unfold settleH settleL
    rw [List.map_map]
    have e : (H.map ((fun x => x.2) ∘ fun q => if dueB now q.2 = true then (q.1, doneM q.2) else q)) = (H.map (·.2)).map fun s => if dueB now s = true then doneM s else s := by
      rw [List.map_map]
      refine List.map_congr_left fun q _ => ?_
      simp only [Function.comp]
      split <;> rfl
    rw [e]
    exact h.perm.map _
  · unfold settleL
    rw [List.pairwise_map]
    refine h.rise.imp fun {a b} hab => ?_
    have e1 : ∀ t : MSale, (if dueB now t = true then doneM t else t).name = t.name := fun t => by split <;> rfl
    rw [e1, e1]; exact hab
/-- What is due, by close, then in the order of names: the list that the program's sort makes. -/
theorem Twin.due (h : Twin H R) {now : Int} {D D' : List MSale} (hD : D.Perm (dueM H now)) (hs : D.Pairwise saleLe) (hD' : D'.Perm (R.filter (dueB now))) (hs' : D'.Pairwise saleLe) : D = D' := by
  have hp : (R.filter (dueB now)).Perm (dueM H now) := by
    have e : dueM H now = (H.map (·.2)).filter (dueB now) := by
      unfold dueM
      rw [List.filter_map]
      rfl
    rw [e]
    exact h.perm.filter _
  have hp2 : D.Perm D' := hD.trans (hp.symm.trans hD'.symm)
  have hnd := due_names h.nodup h.named hD
  refine hp2.eq_of_pairwise (fun a b ha hb hab hba => ?_) hs hs'
  have hb2 := hp2.mem_iff.2 hb
  have hn : a.name = b.name := by
    unfold saleLe at hab hba
    rcases name_tri a.name b.name with h3 | h3 | h3
    · rcases hab with h4 | ⟨h4, h5⟩
      · rcases hba with h6 | ⟨h6, _⟩ <;> omega
      · rcases hba with h6 | ⟨h6, h7⟩
        · omega
        · exact absurd h3 h7
    · exact h3
    · rcases hab with h4 | ⟨h4, h5⟩
      · rcases hba with h6 | ⟨h6, _⟩ <;> omega
      · exact absurd h3 h5
  obtain ⟨i, hi⟩ := List.getElem?_of_mem ha
  obtain ⟨j, hj⟩ := List.getElem?_of_mem hb2
  have h1 := List.getElem?_eq_some_iff.1 hi
  have h2 := List.getElem?_eq_some_iff.1 hj
  have hij : i = j := by
    have hi' : i < (D.map (·.name)).length := by rw [List.length_map]; exact h1.1
    have hj' : j < (D.map (·.name)).length := by rw [List.length_map]; exact h2.1
    refine List.getElem_inj (xs := D.map (·.name)) (h₀ := hi') (h₁ := hj') hnd |>.1 ?_
    rw [List.getElem_map, List.getElem_map, h1.2, h2.2]
    exact hn
  subst hij
  rw [hi] at hj
  injection hj
end
/-- Which of them are due, as the document gathers them: one behind the other into their places. -/
structure DueL (R : List MSale) (now : Int) (k : Nat) (I : List Nat) : Prop where
  perm : I.Perm ((List.range k).filter fun i => match R[i]? with | some s => dueB now s | none => false)
  rise : I.Pairwise fun i j => ∀ s t, R[i]? = some s → R[j]? = some t → s.close < t.close ∨ (s.close = t.close ∧ i < j)
theorem DueL.start (R : List MSale) (now : Int) : DueL R now 0 [] := ⟨by simp, .nil⟩
theorem DueL.lt {R : List MSale} {now : Int} {k : Nat} {I : List Nat} (h : DueL R now k I) {i : Nat} (hi : i ∈ I) : i < k ∧ ∃ s, R[i]? = some s ∧ dueB now s = true := by
  have := h.perm.mem_iff.1 hi
  rw [List.mem_filter, List.mem_range] at this
  obtain ⟨h1, h2⟩ := this
  refine ⟨h1, ?_⟩
  cases hs : R[i]? with
  | none => rw [hs] at h2; cases h2
  | some s => rw [hs] at h2; exact ⟨s, rfl, h2⟩
theorem DueL.skip {R : List MSale} {now : Int} {k : Nat} {I : List Nat} (h : DueL R now k I) {s : MSale} (hs : R[k]? = some s) (hd : dueB now s = false) : DueL R now (k + 1) I := by
  refine ⟨?_, h.rise⟩
  rw [List.range_succ, List.filter_append, List.filter_cons_of_neg (by rw [hs]; simp [hd])]
  simpa using h.perm
theorem DueL.add {R : List MSale} {now : Int} {k : Nat} {I : List Nat} (h : DueL R now k I) {s : MSale} (hs : R[k]? = some s) (hd : dueB now s = true) {p : Nat} (hp : p ≤ I.length) (h1 : p = 0 ∨ ∃ i t, I[p - 1]? = some i ∧ R[i]? = some t ∧ t.close ≤ s.close) (h2 : ∀ j i t, p ≤ j → I[j]? = some i → R[i]? = some t → s.close < t.close) :
    DueL R now (k + 1) (I.take p ++ k :: I.drop p) := by
  have hlo : ∀ i ∈ I.take p, ∀ t, R[i]? = some t → t.close ≤ s.close := by
    intro i hi t ht
    rcases h1 with rfl | ⟨i1, t1, hi1, ht1, hc⟩
    · simp at hi
    · obtain ⟨j, hj⟩ := List.getElem?_of_mem hi
      rw [List.getElem?_take] at hj
      split at hj
      · rename_i hjp
        by_cases e : j = p - 1
        · subst e; rw [hj] at hi1; injection hi1 with hi1; subst hi1; rw [ht] at ht1; injection ht1 with ht1; subst ht1; exact hc
        · have g1 := List.getElem?_eq_some_iff.1 hj
          have g2 := List.getElem?_eq_some_iff.1 hi1
          have := List.pairwise_iff_getElem.1 h.rise j (p - 1) g1.1 g2.1 (by omega) t t1 (by rw [g1.2]; exact ht) (by rw [g2.2]; exact ht1)
          omega
      · cases hj
  refine ⟨?_, ?_⟩
  · rw [List.range_succ, List.filter_append, List.filter_cons_of_pos (by rw [hs]; exact hd)]
    refine List.Perm.trans List.perm_middle ?_
    rw [List.take_append_drop]
    exact (List.Perm.cons k h.perm).trans (List.perm_append_comm (l₁ := [k]))
  · rw [List.pairwise_append]
    refine ⟨h.rise.sublist (List.take_sublist _ _), List.pairwise_cons.2 ⟨fun i hi s' t hs' ht => ?_, h.rise.sublist (List.drop_sublist _ _)⟩, fun a ha b hb s' t hs' ht => ?_⟩
    · obtain ⟨j, hj⟩ := List.getElem?_of_mem hi
      rw [List.getElem?_drop] at hj
      rw [hs] at hs'; injection hs' with hs'; subst hs'
      exact .inl (h2 _ _ _ (by omega) hj ht)
    · have hak := (h.lt (List.mem_of_mem_take ha)).1
      have hac := hlo a ha s' hs'
      rcases List.mem_cons.1 hb with rfl | hb
      · rw [hs] at ht; injection ht with ht; subst ht
        omega
      · obtain ⟨j, hj⟩ := List.getElem?_of_mem hb
        rw [List.getElem?_drop] at hj
        have := h2 _ _ _ (by omega) hj ht
        exact .inl (by omega)
/-- The due ones, by their places. -/
def byPlace (R : List MSale) (I : List Nat) : List MSale := I.filterMap (R[·]?)
theorem filter_range (R : List MSale) (q : MSale → Bool) : ∀ (n : Nat), n ≤ R.length → byPlace R ((List.range n).filter fun i => match R[i]? with | some s => q s | none => false) = (R.take n).filter q
  | 0, _ => by simp [byPlace]
  | n + 1, h => by
    have ih := filter_range R q n (by omega)
    unfold byPlace at *
    rw [List.range_succ, List.filter_append, List.filterMap_append, ih, List.take_add_one, List.filter_append]
    congr 1
    have hn : R[n]? = some R[n] := List.getElem?_eq_getElem (by omega)
    cases hq : q R[n] with
    | true => rw [List.filter_cons_of_pos (by rw [hn]; exact hq)]; simp [hn, hq]
    | false => rw [List.filter_cons_of_neg (by rw [hn]; simp [hq])]; simp [hn, hq]
theorem DueL.perm_due {R : List MSale} {now : Int} {I : List Nat} (h : DueL R now R.length I) : (byPlace R I).Perm (R.filter (dueB now)) := by
  have := h.perm.filterMap (R[·]?)
  have e := filter_range R (dueB now) R.length (Nat.le_refl _)
  rw [List.take_of_length_le (Nat.le_refl _)] at e
  unfold byPlace at e
  rw [e] at this
  exact this
theorem DueL.sorted {H : MHouse} {R : List MSale} (hT : Twin H R) {now : Int} {k : Nat} {I : List Nat} (h : DueL R now k I) : (byPlace R I).Pairwise saleLe := by
  unfold byPlace
  rw [List.pairwise_filterMap]
  refine h.rise.imp fun {i j} hij s hs t ht => ?_
  rcases hij s t hs ht with h1 | ⟨h1, h2⟩
  · exact .inl h1
  · exact .inr ⟨h1, fun h3 => absurd (List.lt_trans h3 (hT.rises hs ht h2)) (List.lt_irrefl _)⟩
theorem DueL.nodup {R : List MSale} {now : Int} {k : Nat} {I : List Nat} (h : DueL R now k I) : I.Nodup :=
  h.perm.nodup_iff.2 (List.nodup_range.sublist List.filter_sublist)
/-- The list when the first of the due ones are done. -/
def settleP (R : List MSale) (J : List Nat) : List MSale := R.mapIdx fun i s => if i ∈ J then doneM s else s
theorem settleP_nil (R : List MSale) : settleP R [] = R := by
  unfold settleP
  apply List.ext_getElem?
  intro i
  rw [List.getElem?_mapIdx]
  cases R[i]? <;> rfl
theorem settleP_len (R : List MSale) (J : List Nat) : (settleP R J).length = R.length := by unfold settleP; simp
theorem settleP_get {R : List MSale} {J : List Nat} {i : Nat} {s : MSale} (hi : R[i]? = some s) : (settleP R J)[i]? = some (if i ∈ J then doneM s else s) := by
  unfold settleP; rw [List.getElem?_mapIdx, hi]; rfl
theorem settleP_step {R : List MSale} {I : List Nat} {k i : Nat} {s : MSale} (hk : I[k]? = some i) (hi : R[i]? = some s) : (settleP R (I.take k)).set i (doneM s) = settleP R (I.take (k + 1)) := by
  have e : I.take (k + 1) = I.take k ++ [i] := by rw [List.take_add_one, hk]; rfl
  apply List.ext_getElem?
  intro j
  rw [List.getElem?_set, settleP_len]
  have hil := (List.getElem?_eq_some_iff.1 hi).1
  by_cases h : i = j
  · subst h
    rw [if_pos rfl, if_pos hil, settleP_get hi, if_pos (by rw [e]; simp)]
  · rw [if_neg h]
    unfold settleP
    rw [List.getElem?_mapIdx, List.getElem?_mapIdx]
    cases R[j]? with
    | none => rfl
    | some t =>
      have : (j ∈ I.take k) ↔ (j ∈ I.take (k + 1)) := by rw [e, List.mem_append, List.mem_singleton]; exact ⟨.inl, fun h' => h'.elim id fun e' => absurd e'.symm h⟩
      simp only [Option.map_some, this]
theorem settleP_fresh {I : List Nat} (hn : I.Nodup) {k i : Nat} (hk : I[k]? = some i) : i ∉ I.take k := by
  intro h
  obtain ⟨j, hj⟩ := List.getElem?_of_mem h
  rw [List.getElem?_take] at hj
  split at hj
  · have h1 := List.getElem?_eq_some_iff.1 hj
    have h2 := List.getElem?_eq_some_iff.1 hk
    have := (List.getElem_inj (xs := I) (h₀ := h1.1) (h₁ := h2.1) hn).1 (by rw [h1.2, h2.2])
    omega
  · cases hj
theorem DueL.settled {R : List MSale} {now : Int} {I : List Nat} (h : DueL R now R.length I) : settleP R I = settleL R now := by
  apply List.ext_getElem?
  intro j
  unfold settleP settleL
  rw [List.getElem?_mapIdx, List.getElem?_map]
  cases hj : R[j]? with
  | none => rfl
  | some s =>
    simp only [Option.map_some]
    by_cases hd : dueB now s = true
    · rw [if_pos hd, if_pos]
      rw [h.perm.mem_iff, List.mem_filter, List.mem_range, hj]
      exact ⟨(List.getElem?_eq_some_iff.1 hj).1, hd⟩
    · rw [if_neg hd, if_neg]
      intro hm
      obtain ⟨_, s', hs', hd'⟩ := h.lt hm
      rw [hj] at hs'; injection hs' with hs'; subst hs'
      exact hd hd'
/-! ### How an auction ends, as the document goes through the bids -/
/-- The best one so far, and the second one. -/
def EndI (x : MSale) (k : Nat) (best second : Int) : Prop :=
  (best = -1 ∧ second = -1 ∧ (x.bids.take k).filter (fun b => decide (x.reserve ≤ b.amount)) = []) ∨
  ∃ (i : Nat) (b : GAuctionBid) (pre post : List GAuctionBid), best = i ∧ x.bids[i]? = some b ∧ (x.bids.take k).filter (fun b => decide (x.reserve ≤ b.amount)) = pre ++ b :: post ∧ (∀ c ∈ pre, c.amount < b.amount) ∧ (∀ c ∈ post, c.amount ≤ b.amount) ∧
    ((second = -1 ∧ pre ++ post = []) ∨ ∃ (j : Nat) (c : GAuctionBid), second = j ∧ x.bids[j]? = some c ∧ c ∈ pre ++ post ∧ ∀ d ∈ pre ++ post, d.amount ≤ c.amount)
theorem EndI.start (x : MSale) : EndI x 0 (-1) (-1) := .inl ⟨rfl, rfl, by simp⟩
section
variable {x : MSale} {k : Nat} {best second : Int} {b : GAuctionBid}
theorem EndI.low (h : EndI x k best second) (hb : x.bids[k]? = some b) (hl : b.amount < x.reserve) : EndI x (k + 1) best second := by
  have e : (x.bids.take (k + 1)).filter (fun b => decide (x.reserve ≤ b.amount)) = (x.bids.take k).filter (fun b => decide (x.reserve ≤ b.amount)) := by
    rw [List.take_add_one, hb, List.filter_append]; simp; omega
  unfold EndI
  rw [e]
  exact h
theorem EndI.snoc (hb : x.bids[k]? = some b) (hl : x.reserve ≤ b.amount) : (x.bids.take (k + 1)).filter (fun b => decide (x.reserve ≤ b.amount)) = (x.bids.take k).filter (fun b => decide (x.reserve ≤ b.amount)) ++ [b] := by
  rw [List.take_add_one, hb, List.filter_append]; simp [hl]
theorem EndI.toFirst (h : EndI x k (-1) second) (hb : x.bids[k]? = some b) (hl : x.reserve ≤ b.amount) : EndI x (k + 1) k (-1) := by
  rcases h with ⟨_, _, h3⟩ | ⟨i, _, _, _, h1, _⟩
  · exact .inr ⟨k, b, [], [], rfl, hb, by rw [EndI.snoc hb hl, h3], by simp, by simp, .inl ⟨rfl, rfl⟩⟩
  · omega
theorem EndI.toBest {i : Nat} {c : GAuctionBid} (h : EndI x k i second) (hi : x.bids[i]? = some c) (hb : x.bids[k]? = some b) (hl : x.reserve ≤ b.amount) (hlt : c.amount < b.amount) : EndI x (k + 1) k i := by
  rcases h with ⟨h1, _⟩ | ⟨i', c', pre, post, h1, h2, h3, h4, h5, _⟩
  · omega
  · obtain rfl : i = i' := by omega
    rw [hi] at h2; injection h2 with h2; subst h2
    refine .inr ⟨k, b, pre ++ c :: post, [], rfl, hb, by rw [EndI.snoc hb hl, h3], fun d hd => ?_, by simp, .inr ⟨i, c, rfl, hi, by simp, fun d hd => ?_⟩⟩
    · rw [List.mem_append, List.mem_cons] at hd
      rcases hd with hd | rfl | hd
      · have := h4 d hd; omega
      · exact hlt
      · have := h5 d hd; omega
    · rw [List.append_nil, List.mem_append, List.mem_cons] at hd
      rcases hd with hd | rfl | hd
      · have := h4 d hd; omega
      · exact Int.le_refl _
      · exact h5 d hd
theorem EndI.toSecond {i : Nat} {c : GAuctionBid} (h : EndI x k i second) (hi : x.bids[i]? = some c) (hb : x.bids[k]? = some b) (hl : x.reserve ≤ b.amount) (hlt : b.amount ≤ c.amount) (hs : second = -1 ∨ ∃ (j : Nat) (d : GAuctionBid), second = j ∧ x.bids[j]? = some d ∧ d.amount < b.amount) : EndI x (k + 1) i k := by
  rcases h with ⟨h1, _⟩ | ⟨i', c', pre, post, h1, h2, h3, h4, h5, h6⟩
  · omega
  · obtain rfl : i = i' := by omega
    rw [hi] at h2; injection h2 with h2; subst h2
    refine .inr ⟨i, c, pre, post ++ [b], rfl, hi, by rw [EndI.snoc hb hl, h3]; simp, h4, fun d hd => ?_, .inr ⟨k, b, rfl, hb, by simp, fun d hd => ?_⟩⟩
    · rw [List.mem_append, List.mem_singleton] at hd
      rcases hd with hd | rfl
      · exact h5 d hd
      · exact hlt
    · rw [← List.append_assoc, List.mem_append, List.mem_singleton] at hd
      rcases hd with hd | rfl
      · rcases h6 with ⟨h7, h8⟩ | ⟨j, e, h7, h8, _, h10⟩
        · rw [h8] at hd; simp at hd
        · rcases hs with hs | ⟨j', e', hs1, hs2, hs3⟩
          · omega
          · obtain rfl : j = j' := by omega
            rw [h8] at hs2; injection hs2 with hs2; subst hs2
            have := h10 d hd; omega
      · exact Int.le_refl _
theorem EndI.none_ {i j : Nat} {c d : GAuctionBid} (h : EndI x k i j) (hi : x.bids[i]? = some c) (hj : x.bids[j]? = some d) (hb : x.bids[k]? = some b) (hl : x.reserve ≤ b.amount) (hlt : b.amount ≤ c.amount) (hs : b.amount ≤ d.amount) : EndI x (k + 1) i j := by
  rcases h with ⟨h1, _⟩ | ⟨i', c', pre, post, h1, h2, h3, h4, h5, h6⟩
  · omega
  · obtain rfl : i = i' := by omega
    rw [hi] at h2; injection h2 with h2; subst h2
    rcases h6 with ⟨h7, _⟩ | ⟨j', e, h7, h8, h9, h10⟩
    · omega
    · obtain rfl : j = j' := by omega
      rw [hj] at h8; injection h8 with h8; subst h8
      refine .inr ⟨i, c, pre, post ++ [b], rfl, hi, by rw [EndI.snoc hb hl, h3]; simp, h4, fun u hu => ?_, .inr ⟨j, d, rfl, hj, ?_, fun u hu => ?_⟩⟩
      · rw [List.mem_append, List.mem_singleton] at hu
        rcases hu with hu | rfl
        · exact h5 u hu
        · exact hlt
      · rw [List.mem_append] at h9 ⊢
        rcases h9 with h9 | h9
        · exact .inl h9
        · exact .inr (by simp [h9])
      · rw [← List.append_assoc, List.mem_append, List.mem_singleton] at hu
        rcases hu with hu | rfl
        · exact h10 u hu
        · exact hs
theorem EndI.at_best {i : Nat} (h : EndI x k i second) : ∃ c, x.bids[i]? = some c := by
  rcases h with ⟨h1, _⟩ | ⟨i', c, _, _, h1, h2, _⟩
  · omega
  · obtain rfl : i = i' := by omega
    exact ⟨c, h2⟩
theorem EndI.shape (h : EndI x k best second) : (best = -1 ∧ second = -1) ∨ ∃ (i : Nat) (c : GAuctionBid), best = i ∧ x.bids[i]? = some c ∧ (second = -1 ∨ ∃ (j : Nat) (d : GAuctionBid), second = j ∧ x.bids[j]? = some d) := by
  rcases h with ⟨h1, h2, _⟩ | ⟨i, c, _, _, h1, h2, _, _, _, h6⟩
  · exact .inl ⟨h1, h2⟩
  · refine .inr ⟨i, c, h1, h2, ?_⟩
    rcases h6 with ⟨h7, _⟩ | ⟨j, d, h7, h8, _⟩
    · exact .inl h7
    · exact .inr ⟨j, d, h7, h8⟩
theorem EndI.nobody (h : EndI x x.bids.length (-1) second) : endR x = ⟨x.name, -1, 0⟩ := by
  rcases h with ⟨_, _, h3⟩ | ⟨i, _, _, _, h1, _⟩
  · rw [List.take_of_length_le (Nat.le_refl _)] at h3
    exact endR_none h3
  · omega
theorem EndI.won {i : Nat} {c : GAuctionBid} (h : EndI x x.bids.length i second) (hi : x.bids[i]? = some c) :
    (x.vickrey = false → endR x = ⟨x.name, c.client, c.amount⟩) ∧ (x.vickrey = true → second = -1 → endR x = ⟨x.name, c.client, x.reserve⟩) ∧ (x.vickrey = true → ∀ (j : Nat) (d : GAuctionBid), second = j → x.bids[j]? = some d → endR x = ⟨x.name, c.client, d.amount⟩) := by
  rcases h with ⟨h1, _⟩ | ⟨i', c', pre, post, h1, h2, h3, h4, h5, h6⟩
  · omega
  · obtain rfl : i = i' := by omega
    rw [hi] at h2; injection h2 with h2; subst h2
    rw [List.take_of_length_le (Nat.le_refl _)] at h3
    have hE := endR_first (s := x) h3 h4 h5
    refine ⟨fun hv => by rw [hE, hv]; rfl, fun hv hs => ?_, fun hv j d hs hj => ?_⟩
    · rcases h6 with ⟨_, h8⟩ | ⟨j, _, h7, _⟩
      · rw [hE, if_pos hv, h8]; rfl
      · omega
    · rcases h6 with ⟨h7, _⟩ | ⟨j', d', h7, h8, h9, h10⟩
      · omega
      · obtain rfl : j = j' := by omega
        rw [hj] at h8; injection h8 with h8; subst h8
        have hr : x.reserve ≤ d.amount := by
          have : d ∈ x.bids.filter fun b => decide (x.reserve ≤ b.amount) := by
            rw [h3, List.mem_append, List.mem_cons]
            rw [List.mem_append] at h9
            rcases h9 with h | h
            · exact .inl h
            · exact .inr (.inr h)
          have := (List.mem_filter.1 this).2
          exact of_decide_eq_true this
        have hm := (maxP_is (pre ++ post) x.reserve).unique (M := pre ++ post) (n := d.amount) ⟨.inr ⟨d, h9, rfl⟩, hr, h10⟩ (fun _ => Iff.rfl)
        rw [hE, if_pos hv, hm]
end
end Go.Proofs.YteockodnfempfaaGreatDoor
/- The document's house in memory; what its looking calls compute. Conditions: those named in each theorem. -/
namespace Go.Proofs.YteockodnfempfaaGreatDoor
open Go Go.RowKit Go.Gv Go.Sort

def rb (b : GAuctionBid) : GRef15Bid := ⟨b.client, b.amount⟩
def rr (x : GAuctionResult) : GRef15Result := ⟨x.name, x.winner, x.price⟩
def MSale.ref (x : MSale) (h : Hdr) : GRef15Sale := ⟨x.name, x.vickrey, x.reserve, x.close, h, x.settled, rr x.result⟩
def RSaleIs (w : World) (s : GRef15Sale) (x : MSale) : Prop := ∃ h : Hdr, s = x.ref h ∧ Sl GRef15Bid w w.heap.size h.a h.len (x.bids.map rb) ∧ h.len ≤ h.cap ∧ h.cap ≤ maxLen
/-- Block g is the variable of a house of the document's, over the sales R. -/
def RHouseIs (w : World) (g : Nat) (R : List MSale) : Prop :=
  ∃ (h : Hdr) (ss : List GRef15Sale), w.heap[g]? = some (.cells #[h.val] 84 (0, 0)) ∧ Sl GRef15Sale w w.heap.size h.a h.len ss ∧ h.len ≤ h.cap ∧ h.cap ≤ maxLen ∧ R2 (RSaleIs w) ss R
/-- No number and no text lies in block k. -/
def Odd (w : World) (k : Nat) : Prop := ∀ p v, p.block = k → w.cell? p = some v → (∀ K n, v ≠ .int K n) ∧ ∀ s, v ≠ .string s
class FirstOk (α : Type) [Enc α] : Prop where
  first : ∀ x : α, (∃ K n, (Enc.enc x)[0]? = some (.int K n)) ∨ ∃ s, (Enc.enc x)[0]? = some (.string s)
instance : FirstOk GAuctionBid := ⟨fun _ => .inl ⟨_, _, rfl⟩⟩
instance : FirstOk GAuctionResult := ⟨fun _ => .inr ⟨_, rfl⟩⟩
instance : FirstOk GRef15Bid := ⟨fun _ => .inl ⟨_, _, rfl⟩⟩
instance : FirstOk GRef15Sale := ⟨fun _ => .inr ⟨_, rfl⟩⟩
instance : FirstOk GRef15Result := ⟨fun _ => .inr ⟨_, rfl⟩⟩
section
variable {w w' : World} {k g : Nat}
theorem Odd.get {α : Type} [Enc α] [FirstOk α] (hO : Odd w k) {a : Addr} {x : α} (h : get? α w a = some x) : a.block ≠ k := by
  intro e
  rcases FirstOk.first x with ⟨K, n, h0⟩ | ⟨s, h0⟩
  · have := get?_iff.1 h 0 _ h0
    exact (hO _ _ (by rw [add_block]; exact e) this).1 K n rfl
  · have := get?_iff.1 h 0 _ h0
    exact (hO _ _ (by rw [add_block]; exact e) this).2 s rfl
theorem Odd.sl {α : Type} [Enc α] [FirstOk α] {S : Nat → Prop} (hO : ∀ k, S k → Odd w k) (hc : Chg S w w') {A : Option Addr} {n : Nat} {xs : List α} (h : Sl α w w.heap.size A n xs) : Sl α w' w'.heap.size A n xs := by
  refine ⟨h.1, fun hn => ?_⟩
  obtain ⟨ad, e, hb, hg⟩ := h.2 hn
  exact ⟨ad, e, Nat.lt_of_lt_of_le hb hc.size, fun j x hx => hc.get (hg j x hx) (fun hs => (hO _ hs).get (hg j x hx) rfl)⟩
theorem RHouseIs.odd {R : List MSale} (h : RHouseIs w g R) : Odd w g := by
  obtain ⟨hd, ss, hb, _⟩ := h
  intro p v hp hc
  have hno : (∀ K n, hd.val ≠ .int K n) ∧ ∀ s, hd.val ≠ .string s := ⟨fun K n e => (by unfold Hdr.val at e; cases e), fun s e => (by unfold Hdr.val at e; cases e)⟩
  have hv : v = hd.val := by
    unfold World.cell? at hc
    rw [hp, hb] at hc
    simp at hc
    grind
  subst hv
  exact hno
theorem Odd.map {K V : Type} [DecidableEq K] [KEnc K] [VEnc V] {r : Nat} {m : List (K × V)} (hm : mapAt K V w r = some m) : Odd w r := by
  obtain ⟨es, c, hb, _⟩ := mapAt_iff.1 hm
  intro p v hp hc
  simp [World.cell?, hp, hb] at hc
theorem RSaleIs.odd {S : Nat → Prop} (hO : ∀ k, S k → Odd w k) (hc : Chg S w w') {s : GRef15Sale} {x : MSale} (h : RSaleIs w s x) : RSaleIs w' s x := by
  obtain ⟨hd, h1, h2, h3⟩ := h
  exact ⟨hd, h1, Odd.sl hO hc h2, h3⟩
theorem RSaleIs.bel (hb : Bel w w') {s : GRef15Sale} {x : MSale} (h : RSaleIs w s x) : RSaleIs w' s x := by
  obtain ⟨hd, h1, h2, h3⟩ := h
  exact ⟨hd, h1, h2.stepB hb, h3⟩
theorem lt_of_some {o : Obj} (h : w.heap[g]? = some o) : g < w.heap.size := by
  rcases Nat.lt_or_ge g w.heap.size with h1 | h1
  · exact h1
  · rw [Array.getElem?_eq_none h1] at h; cases h
theorem RHouseIs.lt {R : List MSale} (h : RHouseIs w g R) : g < w.heap.size := by
  obtain ⟨_, _, hb, _⟩ := h
  exact lt_of_some hb
theorem RHouseIs.off {R : List MSale} {S : Nat → Prop} (h : RHouseIs w g R) (hO : ∀ k, S k → Odd w k) (hc : Chg S w w') (hne : ¬ S g) : RHouseIs w' g R := by
  have hl := h.lt
  obtain ⟨hd, ss, hb, h1, h2, h3, h4⟩ := h
  exact ⟨hd, ss, (hc.block g hl hne).trans hb, Odd.sl hO hc h1, h2, h3, h4.mono fun _ _ h => RSaleIs.odd hO hc h⟩
theorem RHouseIs.bel {R : List MSale} (h : RHouseIs w g R) (hb : Bel w w') : RHouseIs w' g R := by
  have hl := h.lt
  obtain ⟨hd, ss, hb1, h1, h2, h3, h4⟩ := h
  exact ⟨hd, ss, (Below.block hb g hl).trans hb1, h1.stepB hb, h2, h3, h4.mono fun _ _ h => h.bel hb⟩
/-- A new list of sales is laid into the house's variable. -/
theorem RHouseIs.lay {R R' : List MSale} {hd : Hdr} {ss : List GRef15Sale} (h : RHouseIs w g R) (h1 : Sl GRef15Sale w w.heap.size hd.a hd.len ss) (h2 : hd.len ≤ hd.cap) (h3 : hd.cap ≤ maxLen) (h4 : R2 (RSaleIs w) ss R') : RHouseIs (w.setCell ⟨g, 0, none⟩ hd.val) g R' := by
  have hO : ∀ k, k = g → Odd w k := fun k e => by subst e; exact h.odd
  have hc : Chg (fun q => q = g) w (w.setCell ⟨g, 0, none⟩ hd.val) := ⟨rfl, rfl, rfl, by simp, fun k _ hn => Below.heap_setCell _ _ _ _ hn⟩
  obtain ⟨hd0, _, hb, _⟩ := h
  refine ⟨hd, ss, ?_, Odd.sl hO hc h1, h2, h3, h4.mono fun _ _ h => RSaleIs.odd hO hc h⟩
  rw [heap_setCell_same w g 0 _ _ _ hb]
  rfl
theorem RHouseIs.cell {R : List MSale} (h : RHouseIs w g R) : ∃ (h : Hdr) (ss : List GRef15Sale), w.cell? ⟨g, 0, none⟩ = some (.slice h.a R.length h.cap) ∧ h.len = R.length ∧ blkFree w g = true ∧ Sl GRef15Sale w w.heap.size h.a R.length ss ∧ R.length ≤ h.cap ∧ h.cap ≤ maxLen ∧ R2 (RSaleIs w) ss R := by
  obtain ⟨hd, ss, hb, h1, h2, h3, h4⟩ := h
  have hl : hd.len = R.length := by rw [← h1.1]; exact h4.len
  refine ⟨hd, ss, ?_, hl, ?_, by rw [← hl]; exact h1, by rw [← hl]; exact h2, h3, h4⟩
  · unfold World.cell?
    simp only [hb]
    rw [← hl]
    rfl
  · unfold blkFree
    rw [hb]; rfl
/-- What changes in the house's variable alone leaves the program's houses as they are. -/
theorem SaleIs.odd {S : Nat → Prop} (hO : ∀ k, S k → Odd w k) (hc : Chg S w w') {s : GAuctionSale} {x : MSale} (h : SaleIs w s x) : SaleIs w' s x := by
  obtain ⟨hd, h1, h2, h3⟩ := h
  exact ⟨hd, h1, Odd.sl hO hc h2, h3⟩
theorem HouseIs.off {p : Addr} {r : Nat} {H : MHouse} {S : Nat → Prop} (h : HouseIs w p r H) (hO : ∀ k, S k → Odd w k) (hc : Chg S w w') (hp : ¬ S p.block) (hr : ¬ S r) : HouseIs w' p r H := by
  obtain ⟨h1, m, hm, h2⟩ := h
  exact ⟨hc.cell h1 hp, m, hc.map hm hr, HRel.mono (fun _ _ hs => SaleIs.odd hO hc hs) h2⟩
/-- What changes in a map alone leaves the document's houses as they are. -/
theorem RHouseIs.gx {R : List MSale} {K V : Type} [DecidableEq K] [KEnc K] [VEnc V] {r : Nat} {m : List (K × V)} (h : RHouseIs w g R) (hm : mapAt K V w r = some m) (hg : GX r w w') : RHouseIs w' g R := by
  refine h.off (S := fun k => k = r) (fun k e => by subst e; exact Odd.map hm) (Chg.of_grown hg fun k e => by injection e with e; exact e.symm) ?_
  rintro rfl
  obtain ⟨_, _, hb, _⟩ := h
  obtain ⟨es, c, hb2, _⟩ := mapAt_iff.1 hm
  rw [hb] at hb2; cases hb2
end
theorem get?_off {α : Type} [Enc α] {w : World} {a : Addr} {j : Nat} {x : α} (hj : 0 < j) (h : get? α w (a.add j) = some x) : get? α w ⟨a.block, a.off + j, none⟩ = some x := by
  unfold Addr.add at h
  rwa [if_neg (by omega)] at h
def strL (l : List ByteArray) : List StrV := l.map StrV.mk
theorem strL_len (l : List ByteArray) : (strL l).length = l.length := by unfold strL; simp
theorem strL_snoc (l : List ByteArray) (x : ByteArray) : strL l ++ [(⟨x⟩ : StrV)] = strL (l ++ [x]) := by unfold strL; simp
def namesR (R : List MSale) : List ByteArray := R.map (·.name)
theorem namesR_len (R : List MSale) : (namesR R).length = R.length := by unfold namesR; simp
theorem namesR_snoc {R : List MSale} {k : Nat} {x : MSale} (h : R[k]? = some x) : namesR (R.take k) ++ [x.name] = namesR (R.take (k + 1)) := by unfold namesR; rw [List.take_add_one, h, List.map_append]; rfl
/-! ### find -/
def FindIs (R : List MSale) (k : ByteArray) (i : Int) : Prop := (i = -1 ∧ ∀ s ∈ R, s.name ≠ k) ∨ ∃ (j : Nat) (s : MSale), i = j ∧ R[j]? = some s ∧ s.name = k
set_option maxRecDepth 100000 in
set_option maxHeartbeats 1000000 in
theorem rfind_any (g : Nat) (R : List MSale) (name : ByteArray) (w : World) (hR : RHouseIs w g R) (hl : R.length ≤ 1000000) :
    Calls Tryz.prog 80 #[.pointer (some ⟨g, 0, none⟩), .string name] w fun e w' => ∃ i, e = .returned (.int .i64 i) ∧ FindIs R name i ∧ w' = w := by
  obtain ⟨hd, ss, hc, _, _, hs, _, _, hr⟩ := hR.cell
  obtain ⟨n, hn⟩ : ∃ n, R.length = n := ⟨_, rfl⟩
  rw [hn] at hc hl hs
  have HS := Lib.hid hs; have HR := Lib.hid hr; have HN := Lib.hid hn
  clear hR hs hr hn
  go_enter Tryz.func80, Tryz.ntmps80
  go_wp2_with fail
  go_loopw [11] (fun i wr => ∃ k : Nat, k ≤ n ∧ i = .int .i64 k ∧ wr = w ∧ Hid (∀ (j : Nat) (s : MSale), j < k → R[j]? = some s → s.name ≠ name)) (fun i _ => n - (intOf i).toNat)
  case atStart => exact ⟨0, Nat.zero_le _, rfl, rfl, (fun j s h => absurd h (by omega) : ∀ (j : Nat) (s : MSale), j < 0 → R[j]? = some s → s.name ≠ name)⟩
  case round =>
    obtain ⟨k, hk, rfl, rfl, hno⟩ := hrel
    by_cases hlt : k < n
    · obtain ⟨ad, s, hA, _, hsk, hg⟩ := HS.out.at_ (k := k) hlt
      obtain ⟨x, hx, hsx⟩ := HR.out.at_ hsk
      change get? GRef15Sale wr (ad.add (k * 9)) = some s at hg
      have f1 := GRef15Sale.at_name hg
      have hnm : s.name = x.name := by obtain ⟨_, rfl, _⟩ := hsx; rfl
      rw [Addr.add_zero', hnm] at f1
      rw [hA] at hc
      have HX := Lib.hid hx
      have hlt2 : (k : Int) < (n : Int) := by omega
      have hk0 : (0 : Int) ≤ (k : Int) := by omega
      clear hsk hsx hg hx hA hnm
      by_cases he : x.name = name
      · rw [he] at f1
        go_wp2_with fail
        go_ret
        exact ⟨_, rfl, .inr ⟨k, x, rfl, HX.out, he⟩, rfl⟩
      · have hq : (x.name.toList == name.toList) = false := by simpa using fun e => he (bytes_eq e)
        go_wp2_with fail
        refine ⟨⟨k + 1, by omega, by go_num, trivial, (fun j s h1 h2 => by
          by_cases e : j = k
          · subst e; rw [HX.out] at h2; injection h2 with h2; subst h2; exact he
          · exact hno.out j s (by omega) h2 : ∀ (j : Nat) (s : MSale), j < k + 1 → R[j]? = some s → s.name ≠ name)⟩, by simp [intOf]; omega⟩
    · have hn1 : ¬ (k : Int) < (n : Int) := by omega
      go_wp2_with fail
      go_ret
      refine ⟨_, rfl, .inl ⟨rfl, fun s hs => ?_⟩, rfl⟩
      obtain ⟨j, hj⟩ := List.getElem?_of_mem hs
      have := (List.getElem?_eq_some_iff.1 hj).1
      exact hno.out j s (by have := HN.out; omega) hj
end Go.Proofs.YteockodnfempfaaGreatDoor
/- What the looking calls of the document's house compute. Conditions: those named in each theorem. -/
namespace Go.Proofs.YteockodnfempfaaGreatDoor
open Go Go.RowKit Go.Gv Go.Sort

set_option maxHeartbeats 400000 in
theorem letters_any (s : ByteArray) (w : World) (hs : s.size ≤ maxLen) :
    Calls Tryz.prog 79 #[.string s] w fun e w' => e = .returned (.bool (nameB s)) ∧ w = w' := by
  unfold maxLen at hs
  go_enter Tryz.func79, Tryz.ntmps79
  go_wp2
  go_loop [3] (fun i => ∃ k : Nat, k ≤ s.size ∧ i = .int .i64 k ∧ (s.data.toList.take k).all letB = true) (fun i => s.size - (intOf i).toNat)
  case atStart => exact ⟨0, Nat.zero_le _, rfl, rfl⟩
  case round =>
    obtain ⟨k, hk, rfl, hall⟩ := hrel
    have HA := Lib.hid hall; clear hall
    by_cases hlt : k < s.size
    · have hts := Lib.hid (take_snocB s k hlt)
      have hno := Lib.hid (fun hc => all_no hlt hc)
      obtain ⟨c, hc⟩ : ∃ c, s[k] = c := ⟨_, rfl⟩
      have HC := Lib.hid hc
      by_cases h1 : (c.toNat : Int) < 97
      · have hb : letB s[k] = false := by rw [hc]; unfold letB; simp; omega
        have HB := Lib.hid hb; clear hb
        go_wp2
        go_ret
        refine ⟨ret_bool ?_, rfl⟩
        rw [nameB_eq, hno.out HB.out]; rfl
      · by_cases h2 : 122 < (c.toNat : Int)
        · have hb : letB s[k] = false := by rw [hc]; unfold letB; simp; omega
          have HB := Lib.hid hb; clear hb
          go_wp2
          go_ret
          refine ⟨ret_bool ?_, rfl⟩
          rw [nameB_eq, hno.out HB.out]; rfl
        · have hb : letB s[k] = true := by rw [hc]; unfold letB; simp; omega
          have HB := Lib.hid hb; clear hb
          go_wp2
          go_round
          case rel => exact ⟨k + 1, by omega, by go_num, by rw [hts.out, List.all_append, HA.out]; simp [HB.out]⟩
          case measure => simp [intOf]; omega
    · have hall : s.data.toList.all letB = true := by
        have := HA.out
        rwa [List.take_of_length_le (by simp; omega)] at this
      have HA2 := Lib.hid hall; clear hall
      by_cases h1 : 1 ≤ s.size
      · by_cases h2 : s.size ≤ 16
        · go_wp2
          go_ret
          exact ⟨ret_bool (by rw [nameB_eq, HA2.out]; simp [h1]; omega), rfl⟩
        · go_wp2
          go_ret
          exact ⟨ret_bool (by rw [nameB_eq, HA2.out]; simp [h2]; omega), rfl⟩
      · go_wp2
        go_ret
        exact ⟨ret_bool (by rw [nameB_eq, HA2.out]; simp [h1]), rfl⟩
theorem letters_is (r : Bool) (s : ByteArray) (w : World) (hr : nameB s = r) (hs : s.size ≤ maxLen) :
    Calls Tryz.prog 79 #[.string s] w fun e w' => e = .returned (.bool r) ∧ w' = w := by subst hr; exact flipC (letters_any s w hs)
/-- A name's place among the twins. -/
theorem Twin.found {H : MHouse} {R : List MSale} (h : Twin H R) {k : ByteArray} {i : Int} (hf : FindIs R k i) : (i = -1 ∧ mget H k = Option.none) ∨ ∃ (j : Nat) (s : MSale), i = j ∧ R[j]? = some s ∧ s.name = k ∧ mget H k = some s := by
  rcases hf with ⟨h1, h2⟩ | ⟨j, s, h1, h2, h3⟩
  · exact .inl ⟨h1, h.none h2⟩
  · exact .inr ⟨j, s, h1, h2, h3, by rw [← h3]; exact h.get (List.mem_of_getElem? h2)⟩
@[go_sem ↓ high] theorem build_rresult_none (w : World) : (gBuild 94 #[]).run Tryz.prog w = .ok (GRef15Result.val default) w := by
  rw [GRef15Result.val_eq]
  exact run_gBuild_of uu94 zr94 pl94 rfl w
set_option maxRecDepth 100000 in
set_option maxHeartbeats 1000000 in
theorem rresult_any (g : Nat) (H : MHouse) (R : List MSale) (name : ByteArray) (w : World) (hR : RHouseIs w g R) (hT : Twin H R) (hl : R.length ≤ 1000000) :
    Calls Tryz.prog 54 #[.pointer (some ⟨g, 0, none⟩), .string name] w fun e w' => e = .returned (.tuple #[(rr (resultR H name).1).val, .int .i64 (resultR H name).2]) ∧ Bel w w' := by
  have hRa : RHouseIs (w.alloc (.cells (GRef15Result.enc default).toArray 94)) g R := hR.bel ((Bel.refl w).alloc _)
  obtain ⟨hd, ss, hc, _, _, hs, _, _, hr⟩ := hRa.cell
  obtain ⟨n, hn⟩ : ∃ n, R.length = n := ⟨_, rfl⟩
  have HF := Lib.hid (rfind_any g R name _ hRa hl)
  rw [hn] at hc hs
  have HB := Lib.hid ((Bel.refl w).alloc (.cells (GRef15Result.enc default).toArray 94))
  have HS := Lib.hid hs; have HR := Lib.hid hr; have HN := Lib.hid hn; have HT := Lib.hid hT
  clear hR hRa hs hr hn hl hT
  go_enter Tryz.func54, Tryz.ntmps54
  go_wp2_with fail
  refine HF.out.mono ?_
  rintro _ w1 ⟨i, rfl, hf, h1⟩
  subst h1
  rcases HT.out.found hf with ⟨hi, hnone⟩ | ⟨j, s, hi, hj, hjn, hsome⟩
  · subst hi
    have HO := Lib.hid (show resultR H name = (default, 6) by unfold resultR; rw [hnone])
    clear hnone hf
    go_wp2_with fail
    refine bodyPost_ret (results_cell_tmp (x := (default : GRef15Result)) rfl rfl ag94 sz94 (nw94 w w.heap.size default rfl)) rfl ⟨?_, (Bel.refl w).alloc _⟩
    rw [HO.out]; simp only [GRef15Result.val_eq]; rfl
  · subst hi
    have hjl := (List.getElem?_eq_some_iff.1 hj).1
    rw [HN.out] at hjl
    obtain ⟨ad, x, hA, _, hxk, hg⟩ := HS.out.at_ (k := j) hjl
    obtain ⟨y, hy, hxy⟩ := HR.out.at_ hxk
    rw [hj] at hy; injection hy with hy; subst hy
    have hxs : x.settled = s.settled := by obtain ⟨_, rfl, _⟩ := hxy; rfl
    have hxr : x.r = rr s.result := by obtain ⟨_, rfl, _⟩ := hxy; rfl
    change get? GRef15Sale (w.alloc (.cells (GRef15Result.enc default).toArray 94)) (ad.add (j * 9)) = some _ at hg
    have f5 := cell_off (by omega) (GRef15Sale.at_settled hg)
    rw [add_block, hxs] at f5
    have f6 := get?_off (by omega) (GRef15Sale.at_r hg)
    rw [hxr, add_block] at f6
    rw [hA] at hc
    have hj0 : (0 : Int) ≤ (j : Int) := by omega
    have hj1 : (j : Int) < (n : Int) := by omega
    obtain ⟨st, hst⟩ : ∃ st, s.settled = st := ⟨_, rfl⟩
    rw [hst] at f5
    cases st
    · have HO := Lib.hid (show resultR H name = (default, 12) by unfold resultR; rw [hsome]; simp only; rw [if_neg (by rw [hst]; decide)])
      clear hxk hg hf hsome hj hA hxy hxs hxr hst
      go_wp2_with fail
      refine bodyPost_ret (results_cell_tmp (x := (default : GRef15Result)) rfl rfl ag94 sz94 (nw94 w w.heap.size default rfl)) rfl ⟨?_, (Bel.refl w).alloc _⟩
      rw [HO.out]; simp only [GRef15Result.val_eq]; rfl
    · have HO := Lib.hid (show resultR H name = (s.result, 0) by unfold resultR; rw [hsome]; simp only; rw [if_pos hst])
      clear hxk hg hf hsome hj hA hxy hxs hxr hst
      go_wp2_with fail
      refine bodyPost_ret (results_cell_tmp (x := rr s.result) rfl rfl ag94 sz94 (nw94 w w.heap.size (rr s.result) rfl)) rfl ⟨?_, (Bel.refl w).alloc _⟩
      rw [HO.out]; simp only [GRef15Result.val_eq]; rfl
end Go.Proofs.YteockodnfempfaaGreatDoor
/- How an auction of the document's ends. Conditions: those named in each theorem. -/
namespace Go.Proofs.YteockodnfempfaaGreatDoor
open Go Go.RowKit Go.Gv Go.Sort

set_option maxRecDepth 100000 in
set_option maxHeartbeats 8000000 in
theorem rend_any (s : GRef15Sale) (x : MSale) (w : World) (hS : RSaleIs w s x) (hn : x.bids.length ≤ 1000000) :
    Calls Tryz.prog 78 #[s.val] w fun e w' => e = .returned (rr (endR x)).val ∧ Bel w w' := by
  obtain ⟨h, rfl, hx, hc1, hc2⟩ := hS
  obtain ⟨A, n, c⟩ := h
  have hl : x.bids.length = n := by have := hx.1; simpa using this
  simp only at hx hc1 hc2
  rw [hl] at hn
  have HX := Lib.hid hx; have HL := Lib.hid hl; clear hx hl
  obtain ⟨s, hs⟩ : ∃ s, s = x.ref ⟨A, n, c⟩ := ⟨_, rfl⟩
  have hsb : s.bids = ⟨A, n, c⟩ := by rw [hs]; rfl
  have hsr : s.reserve = x.reserve := by rw [hs]; rfl
  have hsn : s.name = x.name := by rw [hs]; rfl
  have hsv : s.vickrey = x.vickrey := by rw [hs]; rfl
  rw [← hs]
  obtain ⟨w2, hw2⟩ : ∃ w2, w2 = ((w.alloc (.cells s.enc.toArray 137)).alloc (.cells (default : GRef15Result).enc.toArray 94)).alloc (.cells (⟨x.name, -1, 0⟩ : GRef15Result).enc.toArray 94) := ⟨_, rfl⟩
  have hg : get? GRef15Sale w2 ⟨w.heap.size, 0, none⟩ = some s := by rw [hw2]; exact get?_alloc _ (get?_alloc _ (get?_new _ _))
  have ho : get? GRef15Result w2 ⟨w.heap.size + 1 + 1, 0, none⟩ = some ⟨x.name, -1, 0⟩ := by
    have := get?_new (w := (w.alloc (.cells s.enc.toArray 137)).alloc (.cells (default : GRef15Result).enc.toArray 94)) 94 (⟨x.name, -1, 0⟩ : GRef15Result)
    rw [World.size_alloc, World.size_alloc] at this
    rw [hw2]; exact this
  have hr0 : get? GRef15Result w2 ⟨w.heap.size + 1, 0, none⟩ = some default := by
    have := get?_new (w := w.alloc (.cells s.enc.toArray 137)) 94 (default : GRef15Result)
    rw [World.size_alloc] at this
    rw [hw2]; exact get?_alloc _ this
  have hb2 : Bel w w2 := by rw [hw2]; exact (((Bel.refl w).alloc _).alloc _).alloc _
  have hf2 : blkFree w2 (w.heap.size + 1) = true ∧ blkFree w2 (w.heap.size + 1 + 1) = true := by
    rw [hw2]
    exact ⟨by rw [blkFree_past _ _ (by simp [World.size_alloc])]; exact blkFree_new _ _ (by simp [World.size_alloc]), blkFree_new _ _ (by simp [World.size_alloc])⟩
  have hz2 : w2.heap.size = w.heap.size + 3 := by rw [hw2]; simp [World.size_alloc]
  have HS := Lib.hid hs; have HG := Lib.hid hg; have HB2 := Lib.hid hb2; have HO := Lib.hid ho; have HR0 := Lib.hid hr0; have HF2 := Lib.hid hf2; have HZ2 := Lib.hid hz2
  have f0 : ∀ o, (w.alloc (.cells s.enc.toArray 137) |>.alloc o).cell? ⟨w.heap.size, 0, none⟩ = some (.string x.name) := fun o => by
    have := cell_zero (GRef15Sale.at_name (get?_alloc o (get?_new (w := w) 137 s)))
    rwa [hsn] at this
  clear hs hg hb2 ho hr0 hf2 hz2
  go_enter Tryz.func78, Tryz.ntmps78
  go_wp2_with fail
  clear f0
  go_loopw [4, 5, 13] (fun vb vs vi wr => ∃ (k : Nat) (best second : Int), k ≤ n ∧ vi = .int .i64 k ∧ vb = .int .i64 best ∧ vs = .int .i64 second ∧ EndI x k best second ∧ Bel w2 wr) (fun _ _ vi _ => n - (intOf vi).toNat)
  case atStart => exact ⟨0, -1, -1, Nat.zero_le _, rfl, rfl, rfl, EndI.start x, by rw [hw2]; exact Bel.refl _⟩
  case round =>
    obtain ⟨k, best, second, hk, rfl, rfl, rfl, hE, hb⟩ := hrel
    have HE := Lib.hid hE; have HB := Lib.hid hb
    clear hE hb
    have hgr : get? GRef15Sale wr ⟨w.heap.size, 0, none⟩ = some s := GB.get HB.out HG.out
    have f2 : wr.cell? ⟨w.heap.size, 2, none⟩ = some (.int .i64 x.reserve) := by have := cell_off (by omega) (GRef15Sale.at_reserve hgr); rw [hsr] at this; simpa using this
    have f4 : wr.cell? ⟨w.heap.size, 4, none⟩ = some (.slice A n c) := by have := cell_off (by omega) (GRef15Sale.at_bids hgr); rw [hsb] at this; unfold Hdr.val at this; simpa using this
    by_cases hlt : k < n
    · have hat : ∀ (i : Nat) (b : GAuctionBid), x.bids[i]? = some b → ∃ ad : Addr, A = some ad ∧ wr.cell? ⟨ad.block, (ad.add (i * 2)).off + 1, none⟩ = some (.int .i64 b.amount) := fun i b hb => by
        have hil := (List.getElem?_eq_some_iff.1 hb).1
        obtain ⟨ad, y, hA, _, hy, hgy⟩ := (HX.out.stepB (HB2.out.trans HB.out)).at_ (k := i) (by rw [← HL.out]; exact hil)
        rw [List.getElem?_map, hb] at hy
        injection hy with hy
        subst hy
        change get? GRef15Bid wr (ad.add (i * 2)) = some (rb b) at hgy
        have := cell_off (by omega) (GRef15Bid.at_amount hgy)
        rw [add_block] at this
        exact ⟨ad, hA, this⟩
      obtain ⟨b, hbk⟩ : ∃ b, x.bids[k]? = some b := ⟨_, List.getElem?_eq_getElem (by rw [HL.out]; exact hlt)⟩
      obtain ⟨ad, rfl, fk⟩ := hat k b hbk
      have HBK := Lib.hid hbk
      have hlt2 : (k : Int) < (n : Int) := by omega
      have hk0 : (0 : Int) ≤ (k : Int) := by omega
      by_cases hlow : b.amount < x.reserve
      · have HE2 := Lib.hid (HE.out.low hbk hlow)
        clear hgr hat hbk
        go_wp2_with fail
        go_big_quiet (fail)
        go_wp2_with fail
        exact ⟨⟨k + 1, best, second, by omega, by go_num, rfl, rfl, HE2.out, HB.out.drewN _⟩, by simp [intOf]; omega⟩
      · have hge : x.reserve ≤ b.amount := by omega
        rcases HE.out.shape with ⟨rfl, rfl⟩ | ⟨i, cb, rfl, hic, hsec⟩
        · have HE2 := Lib.hid (HE.out.toFirst hbk hge)
          clear hgr hat hbk
          go_wp2_with fail
          go_big_quiet (fail)
          go_wp2_with fail
          go_quiet (fail)
          go_wp2_with fail
          exact ⟨⟨k + 1, k, -1, by omega, by go_num, rfl, rfl, HE2.out, (by exact Bel.trans HB.out ⟨rfl, rfl, rfl, Nat.le_refl _, fun _ _ => rfl⟩)⟩, by simp [intOf]; omega⟩
        · obtain ⟨ad2, hA2, fi⟩ := hat i cb hic
          injection hA2 with hA2; subst hA2
          have hil : i < n := by have := (List.getElem?_eq_some_iff.1 hic).1; rw [HL.out] at this; exact this
          have hi0 : (0 : Int) ≤ (i : Int) := by omega
          have hi1 : (i : Int) < (n : Int) := by omega
          have hi2 : decide ((i : Int) < 0) = false := decide_eq_false (by omega)
          by_cases hgt : cb.amount < b.amount
          · have HE2 := Lib.hid (HE.out.toBest hic hbk hge hgt)
            clear hgr hat hbk hic
            go_wp2_with fail
            go_big_quiet (fail)
            go_wp2_with fail
            go_big_quiet (fail)
            go_wp2_with fail
            exact ⟨⟨k + 1, k, i, by omega, by go_num, rfl, rfl, HE2.out, (by exact Bel.trans HB.out ⟨rfl, rfl, rfl, Nat.le_refl _, fun _ _ => rfl⟩)⟩, by simp [intOf]; omega⟩
          · rcases hsec with rfl | ⟨j, dj, rfl, hjd⟩
            · have HE2 := Lib.hid (HE.out.toSecond hic hbk hge (by omega) (.inl rfl))
              clear hgr hat hbk hic
              go_wp2_with fail
              go_big_quiet (fail)
              go_wp2_with fail
              go_big_quiet (fail)
              go_wp2_with fail
              go_quiet (fail)
              go_wp2_with fail
              exact ⟨⟨k + 1, i, k, by omega, by go_num, rfl, rfl, HE2.out, (by exact Bel.trans HB.out ⟨rfl, rfl, rfl, Nat.le_refl _, fun _ _ => rfl⟩)⟩, by simp [intOf]; omega⟩
            · obtain ⟨ad2, hA2, fj⟩ := hat j dj hjd
              injection hA2 with hA2; subst hA2
              have hjl : j < n := by have := (List.getElem?_eq_some_iff.1 hjd).1; rw [HL.out] at this; exact this
              have hj0 : (0 : Int) ≤ (j : Int) := by omega
              have hj1 : (j : Int) < (n : Int) := by omega
              have hj2 : decide ((j : Int) < 0) = false := decide_eq_false (by omega)
              by_cases hgt2 : dj.amount < b.amount
              · have HE2 := Lib.hid (HE.out.toSecond hic hbk hge (by omega) (.inr ⟨j, dj, rfl, hjd, hgt2⟩))
                clear hgr hat hbk hic hjd
                go_wp2_with fail
                go_big_quiet (fail)
                go_wp2_with fail
                go_big_quiet (fail)
                go_wp2_with fail
                go_big_quiet (fail)
                go_wp2_with fail
                exact ⟨⟨k + 1, i, k, by omega, by go_num, rfl, rfl, HE2.out, (by exact Bel.trans HB.out ⟨rfl, rfl, rfl, Nat.le_refl _, fun _ _ => rfl⟩)⟩, by simp [intOf]; omega⟩
              · have HE2 := Lib.hid (HE.out.none_ hic hjd hbk hge (by omega) (by omega))
                clear hgr hat hbk hic hjd
                go_wp2_with fail
                go_big_quiet (fail)
                go_wp2_with fail
                go_big_quiet (fail)
                go_wp2_with fail
                go_big_quiet (fail)
                go_wp2_with fail
                exact ⟨⟨k + 1, i, j, by omega, by go_num, rfl, rfl, HE2.out, (by exact Bel.trans HB.out ⟨rfl, rfl, rfl, Nat.le_refl _, fun _ _ => rfl⟩)⟩, by simp [intOf]; omega⟩
    · obtain rfl : k = n := by omega
      have hn1 : ¬ (k : Int) < (k : Int) := by omega
      have h3 := GB.get HB.out HO.out
      have h0 := GB.get HB.out HR0.out
      have k0 : blkFree wr (w.heap.size + 1) = true := GX.free (GX.of_bel HB.out (w.heap.size + 7)) HF2.out.1 (by rw [HZ2.out]; omega) (by omega)
      have k3 : blkFree wr (w.heap.size + 1 + 1) = true := GX.free (GX.of_bel HB.out (w.heap.size + 7)) HF2.out.2 (by rw [HZ2.out]; omega) (by omega)
      have hbz : w.heap.size + 3 ≤ wr.heap.size := by rw [← HZ2.out]; exact HB.out.size
      have hbw : Below w.heap.size w wr := Below.trans HB2.out (Below.mono HB.out (by rw [HZ2.out]; omega))
      have HBW := Lib.hid hbw
      have hL : EndI x x.bids.length best second := by rw [HL.out]; exact HE.out
      rcases HE.out.shape with ⟨rfl, rfl⟩ | ⟨i, cb, rfl, hic, hsec⟩
      · have HEN := Lib.hid hL.nobody
        clear hgr hbw hL
        go_wp2_with fail
        have hgn : get? GRef15Result _ ⟨w.heap.size + 1, 0, none⟩ = some (⟨x.name, -1, 0⟩ : GRef15Result) := get?_put ⟨x.name, -1, 0⟩ h0
        refine bodyPost_ret (results_cell (x := (⟨x.name, -1, 0⟩ : GRef15Result)) rfl rfl ag94 sz94 hgn) rfl ⟨?_, ?_⟩
        · rw [HEN.out]; simp only [GRef15Result.val_eq]; rfl
        · exact Below_putCells (a := ⟨w.heap.size + 1, 0, none⟩) HBW.out (by show w.heap.size ≤ w.heap.size + 1; omega) _
      · obtain ⟨hw1, hw2', hw3⟩ := hL.won hic
        have HW1 := Lib.hid hw1; have HW2 := Lib.hid hw2'; have HW3 := Lib.hid hw3
        have hil : i < k := by have := (List.getElem?_eq_some_iff.1 hic).1; rw [HL.out] at this; exact this
        obtain ⟨ad, y, hA, _, hy, hgy⟩ := (HX.out.stepB (HB2.out.trans HB.out)).at_ (k := i) hil
        rw [List.getElem?_map, hic] at hy
        injection hy with hy
        subst hy
        change get? GRef15Bid wr (ad.add (i * 2)) = some (rb cb) at hgy
        have fa := cell_off (by omega) (GRef15Bid.at_amount hgy)
        have fc := GRef15Bid.at_client hgy
        rw [add_block] at fa
        rw [Addr.add_zero'] at fc
        have e1 : (rb cb).amount = cb.amount := rfl
        have e2 : (rb cb).client = cb.client := rfl
        rw [e1] at fa; rw [e2] at fc
        have hi0 : (0 : Int) ≤ (i : Int) := by omega
        have hi1 : (i : Int) < (k : Int) := by omega
        have hi2 : ¬ (i : Int) < 0 := by omega
        subst hA
        have f1 : wr.cell? ⟨w.heap.size, 1, none⟩ = some (.bool x.vickrey) := by have := cell_off (by omega) (GRef15Sale.at_vickrey hgr); rw [hsv] at this; simpa using this
        clear hgr hbw hL hgy hic e1 e2 hw1 hw2' hw3
        have p1 : wr.cell? ⟨w.heap.size + 1 + 1, 1, none⟩ = some (.int .i64 (-1)) := by have := cell_off (by omega) (GRef15Result.at_winner h3); simpa using this
        have p2 : wr.cell? ⟨w.heap.size + 1 + 1, 2, none⟩ = some (.int .i64 0) := by have := cell_off (by omega) (GRef15Result.at_price h3); simpa using this
        go_wp2_with fail
        have hO3 : ¬ (w.heap.size = w.heap.size + 1 + 1) := by omega
        refine wp_region_H GB (Chg (fun q => q = w.heap.size + 1 + 1)) [13, 15] [] GB.rf (by kernel_rfl) ?_
        refine wpH_looks 3 0 [0,1,2,3,4,5,6,7,8,9,10,11,12] rfl GB.rf GB.tr (Chg.refl _) (fun _ _ _ h k => h.tr k) (fun _ _ h => Chg.of_bel h _) (by kernel_rfl) (fun _ _ _ _ hd h => And.intro (hd ▸ And.left h) (And.right h)) rfl (by kernel_rfl) ?_
        intro ι W hne CW
        have hadb : ad.block ≠ w.heap.size + 1 + 1 := by
          have h9 := HX.out.block_lt (by omega) rfl
          omega
        have g4 : ∀ z, (W z).cell? ⟨w.heap.size, 4, none⟩ = some (.slice (some ad) k c) := fun z => (CW.out z).cell f4 hO3
        have ga : ∀ z, (W z).cell? ⟨ad.block, (ad.add (i * 2)).off + 1, none⟩ = some (.int .i64 cb.amount) := fun z => (CW.out z).cell fa hadb
        have gc : ∀ z, (W z).cell? (ad.add (i * 2)) = some (.int .i64 cb.client) := fun z => (CW.out z).cell fc (by rw [add_block]; exact hadb)
        repeat (refine wpLooksG_step (fun K hK => ?_); go_simp; refine hK _ ?_; clear hK K)
        refine wpLooksG_nil ?_
        clear g4 ga gc CW hne W ι
        refine wpH_force 13 _ rfl (by kernel_rfl) rfl fun wa hwa K hK => ?_
        have q1 := GB.cell hwa.undrew p1
        have q4 : blkFree wa (w.heap.size + 1 + 1) = true := GX.free (GX.of_bel hwa.undrew (w.heap.size)) k3 (by omega) (by omega)
        have q3 := frozen_of_free (a := ⟨w.heap.size + 1 + 1, 1, none⟩) q4
        go_simp
        have m1 : get? GRef15Result (wa.setCell ⟨w.heap.size + 1 + 1, 1, none⟩ (.int .i64 cb.client)) ⟨w.heap.size + 1 + 1, 0, none⟩ = some ⟨x.name, cb.client, 0⟩ := get?_poke (GB.get hwa.undrew h3) rfl
        have c1 : Chg (fun q => q = w.heap.size + 1 + 1) wa (wa.setCell ⟨w.heap.size + 1 + 1, 1, none⟩ (.int .i64 cb.client)) := ⟨rfl, rfl, rfl, by simp, fun k _ hn => Below.heap_setCell _ _ _ _ hn⟩
        have q5 : blkFree (wa.setCell ⟨w.heap.size + 1 + 1, 1, none⟩ (.int .i64 cb.client)) (w.heap.size + 1 + 1) = true := by rw [blkFree_setCell]; exact q4
        refine hK _ _ (fun h => absurd (by simp) h) (fun _ => c1) ?_
        clear hK K
        have c0 : Chg (fun q => q = w.heap.size + 1 + 1) wr (wa.setCell ⟨w.heap.size + 1 + 1, 1, none⟩ (.int .i64 cb.client)) := (Chg.of_bel hwa.undrew _).tr c1
        generalize wa.setCell ⟨w.heap.size + 1 + 1, 1, none⟩ (.int .i64 cb.client) = wb at m1 q5 c0 ⊢
        clear q1 q3 q4 c1 hwa
        refine wpH_force 14 _ rfl (by kernel_rfl) rfl fun wc hwc K hK => ?_
        go_simp
        refine hK _ _ (fun _ => GB.rf _) (fun _ => Chg.refl _ _) ?_
        clear hK K
        refine wpH_force 15 _ rfl (by kernel_rfl) rfl fun wd hwd K hK => ?_
        have hbd : GB wb wd := GB.tr _ _ _ hwc hwd
        have m2 := GB.get hbd m1
        have q6 : blkFree wd (w.heap.size + 1 + 1) = true := (blkFree_keep (Below.block hbd _ (by have := c0.size; omega))).trans q5
        have q7 := frozen_of_free (a := ⟨w.heap.size + 1 + 1, 2, none⟩) q6
        have q8 : wd.cell? ⟨w.heap.size + 1 + 1, 2, none⟩ = some (.int .i64 0) := by have := cell_off (by omega) (GRef15Result.at_price m2); simpa using this
        go_simp
        have m3 : get? GRef15Result (wd.setCell ⟨w.heap.size + 1 + 1, 2, none⟩ (.int .i64 cb.amount)) ⟨w.heap.size + 1 + 1, 0, none⟩ = some ⟨x.name, cb.client, cb.amount⟩ := get?_poke m2 rfl
        have c1 : Chg (fun q => q = w.heap.size + 1 + 1) wd (wd.setCell ⟨w.heap.size + 1 + 1, 2, none⟩ (.int .i64 cb.amount)) := ⟨rfl, rfl, rfl, by simp, fun k _ hn => Below.heap_setCell _ _ _ _ hn⟩
        have q9 : blkFree (wd.setCell ⟨w.heap.size + 1 + 1, 2, none⟩ (.int .i64 cb.amount)) (w.heap.size + 1 + 1) = true := by rw [blkFree_setCell]; exact q6
        refine hK _ _ (fun h => absurd (by simp) h) (fun _ => c1) ?_
        clear hK K
        have c2 : Chg (fun q => q = w.heap.size + 1 + 1) wr (wd.setCell ⟨w.heap.size + 1 + 1, 2, none⟩ (.int .i64 cb.amount)) := (c0.tr (Chg.of_bel hbd _)).tr c1
        generalize wd.setCell ⟨w.heap.size + 1 + 1, 2, none⟩ (.int .i64 cb.amount) = we at m3 q9 c2 ⊢
        clear q5 q6 q7 q8 m1 m2 c0 c1 hbd hwc hwd
        refine wpH_end (by kernel_rfl) (fun wn hwn => ?_) _
        have m4 := GB.get hwn m3
        have c3 : Chg (fun q => q = w.heap.size + 1 + 1) wr wn := c2.tr (Chg.of_bel hwn _)
        have q10 : blkFree wn (w.heap.size + 1 + 1) = true := (blkFree_keep (Below.block hwn _ (by have := c2.size; omega))).trans q9
        have n1 : wn.cell? ⟨w.heap.size, 1, none⟩ = some (.bool x.vickrey) := c3.cell f1 hO3
        have n2 : wn.cell? ⟨w.heap.size, 2, none⟩ = some (.int .i64 x.reserve) := c3.cell f2 hO3
        have n4 : wn.cell? ⟨w.heap.size, 4, none⟩ = some (.slice (some ad) k c) := c3.cell f4 hO3
        have n0 : get? GRef15Result wn ⟨w.heap.size + 1, 0, none⟩ = some default := c3.get h0 (by show ¬ (w.heap.size + 1 = w.heap.size + 1 + 1); omega)
        have n5 : blkFree wn (w.heap.size + 1) = true := c3.free k0 (by omega) (by omega)
        have hbn : Below w.heap.size w wn := Chg.bel2 HBW.out c3 (fun q hq => by omega)
        have nq : wn.cell? ⟨w.heap.size + 1 + 1, 2, none⟩ = some (.int .i64 cb.amount) := by have := cell_off (by omega) (GRef15Result.at_price m4); simpa using this
        have hsz : w.heap.size + 3 ≤ wn.heap.size := by have := c3.size; omega
        have HBN := Lib.hid hbn
        clear m3 q9 c2 hwn hbn p1 p2 f1 f2 f4 fa fc h3 h0 k0 k3 hbz
        obtain ⟨vk, hvk⟩ : ∃ vk, x.vickrey = vk := ⟨_, rfl⟩
        rw [hvk] at n1
        cases vk
        · have HEN := Lib.hid (HW1.out hvk)
          clear HW1 HW2 HW3 hvk hsec c3
          go_wp2_with fail
          have hgn : get? GRef15Result _ ⟨w.heap.size + 1, 0, none⟩ = some (⟨x.name, cb.client, cb.amount⟩ : GRef15Result) := get?_put ⟨x.name, cb.client, cb.amount⟩ n0
          refine bodyPost_ret (results_cell (x := (⟨x.name, cb.client, cb.amount⟩ : GRef15Result)) rfl rfl ag94 sz94 hgn) rfl ⟨?_, ?_⟩
          · rw [HEN.out]; simp only [GRef15Result.val_eq]; rfl
          · exact Below_putCells (a := ⟨w.heap.size + 1, 0, none⟩) HBN.out (by show w.heap.size ≤ w.heap.size + 1; omega) _
        · have HVK := Lib.hid hvk
          have nf := frozen_of_free (a := ⟨w.heap.size + 1 + 1, 2, none⟩) q10
          clear HW1 hvk
          go_upto_region 17 with fail
          have c5 : Chg (fun q => q = w.heap.size + 1 + 1) wn (wn.setCell ⟨w.heap.size + 1 + 1, 2, none⟩ (.int .i64 x.reserve)) := ⟨rfl, rfl, rfl, by simp, fun k _ hn => Below.heap_setCell _ _ _ _ hn⟩
          have m5 : get? GRef15Result (wn.setCell ⟨w.heap.size + 1 + 1, 2, none⟩ (.int .i64 x.reserve)) ⟨w.heap.size + 1 + 1, 0, none⟩ = some ⟨x.name, cb.client, x.reserve⟩ := get?_poke m4 rfl
          have q11 : blkFree (wn.setCell ⟨w.heap.size + 1 + 1, 2, none⟩ (.int .i64 x.reserve)) (w.heap.size + 1 + 1) = true := by rw [blkFree_setCell]; exact q10
          have c6 := c3.tr c5
          have n6 := c5.cell n4 hO3
          have n7 := c5.get n0 (by show ¬ (w.heap.size + 1 = w.heap.size + 1 + 1); omega)
          have n8 : blkFree (wn.setCell ⟨w.heap.size + 1 + 1, 2, none⟩ (.int .i64 x.reserve)) (w.heap.size + 1) = true := by rw [blkFree_setCell]; exact n5
          have HBM := Lib.hid (Chg.bel2 HBN.out c5 (fun q hq => by omega))
          clear nq nf m4 q10 c3 c5 n1 n2 n4 n0 n5 HBN
          generalize wn.setCell ⟨w.heap.size + 1 + 1, 2, none⟩ (.int .i64 x.reserve) = wm at m5 q11 c6 n6 n7 n8 HBM ⊢
          rcases hsec with rfl | ⟨j, dj, rfl, hjd⟩
          · have HEN := Lib.hid (HW2.out HVK.out rfl)
            clear HW2 HW3 c6
            go_wp2_with fail
            have hgn : get? GRef15Result _ ⟨w.heap.size + 1, 0, none⟩ = some (⟨x.name, cb.client, x.reserve⟩ : GRef15Result) := get?_put ⟨x.name, cb.client, x.reserve⟩ n7
            refine bodyPost_ret (results_cell (x := (⟨x.name, cb.client, x.reserve⟩ : GRef15Result)) rfl rfl ag94 sz94 hgn) rfl ⟨?_, ?_⟩
            · rw [HEN.out]; simp only [GRef15Result.val_eq]; rfl
            · exact Below_putCells (a := ⟨w.heap.size + 1, 0, none⟩) HBM.out (by show w.heap.size ≤ w.heap.size + 1; omega) _
          · have HEN := Lib.hid (HW3.out HVK.out j dj rfl hjd)
            have hjl : j < k := by have := (List.getElem?_eq_some_iff.1 hjd).1; rw [HL.out] at this; exact this
            obtain ⟨ad2, y, hA, hadb, hy, hgy⟩ := (HX.out.stepB (HB2.out.trans HB.out)).at_ (k := j) hjl
            injection hA with hA; subst hA
            rw [List.getElem?_map, hjd] at hy
            injection hy with hy
            subst hy
            change get? GRef15Bid wr (ad.add (j * 2)) = some (rb dj) at hgy
            have fa := cell_off (by omega) (GRef15Bid.at_amount hgy)
            rw [add_block] at fa
            have e1 : (rb dj).amount = dj.amount := rfl
            rw [e1] at fa
            have hadb2 : ad.block ≠ w.heap.size + 1 + 1 := by
              have h9 := HX.out.block_lt (by omega) rfl
              omega
            have fb : wm.cell? ⟨ad.block, (ad.add (j * 2)).off + 1, none⟩ = some (.int .i64 dj.amount) := c6.cell fa hadb2
            have hj0 : (0 : Int) ≤ (j : Int) := by omega
            have hj1 : (j : Int) < (k : Int) := by omega
            have nq : wm.cell? ⟨w.heap.size + 1 + 1, 2, none⟩ = some (.int .i64 x.reserve) := by have := cell_off (by omega) (GRef15Result.at_price m5); simpa using this
            have nf := frozen_of_free (a := ⟨w.heap.size + 1 + 1, 2, none⟩) q11
            have hsz2 : w.heap.size + 3 ≤ wm.heap.size := by have := c6.size; have := HB.out.size; have := HZ2.out; omega
            clear HW2 HW3 c6 hgy hjd fa e1
            go_upto_region 19 with fail
            have c7 : Chg (fun q => q = w.heap.size + 1 + 1) wm (wm.setCell ⟨w.heap.size + 1 + 1, 2, none⟩ (.int .i64 dj.amount)) := ⟨rfl, rfl, rfl, by simp, fun k _ hn => Below.heap_setCell _ _ _ _ hn⟩
            have m6 : get? GRef15Result (wm.setCell ⟨w.heap.size + 1 + 1, 2, none⟩ (.int .i64 dj.amount)) ⟨w.heap.size + 1 + 1, 0, none⟩ = some ⟨x.name, cb.client, dj.amount⟩ := get?_poke m5 rfl
            have n9 := c7.get n7 (by show ¬ (w.heap.size + 1 = w.heap.size + 1 + 1); omega)
            have n10 : blkFree (wm.setCell ⟨w.heap.size + 1 + 1, 2, none⟩ (.int .i64 dj.amount)) (w.heap.size + 1) = true := by rw [blkFree_setCell]; exact n8
            have HBO := Lib.hid (Chg.bel2 HBM.out c7 (fun q hq => by omega))
            clear nq nf m5 q11 c7 n6 n7 n8 fb HBM
            generalize wm.setCell ⟨w.heap.size + 1 + 1, 2, none⟩ (.int .i64 dj.amount) = wo at m6 n9 n10 HBO ⊢
            go_wp2_with fail
            have hgn : get? GRef15Result _ ⟨w.heap.size + 1, 0, none⟩ = some (⟨x.name, cb.client, dj.amount⟩ : GRef15Result) := get?_put ⟨x.name, cb.client, dj.amount⟩ n9
            refine bodyPost_ret (results_cell (x := (⟨x.name, cb.client, dj.amount⟩ : GRef15Result)) rfl rfl ag94 sz94 hgn) rfl ⟨?_, ?_⟩
            · rw [HEN.out]; simp only [GRef15Result.val_eq]; rfl
            · exact Below_putCells (a := ⟨w.heap.size + 1, 0, none⟩) HBO.out (by show w.heap.size ≤ w.heap.size + 1; omega) _
end Go.Proofs.YteockodnfempfaaGreatDoor
