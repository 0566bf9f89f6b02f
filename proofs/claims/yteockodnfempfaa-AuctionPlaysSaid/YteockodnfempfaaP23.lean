/- A list with one more in its midst: appending to a full list. Conditions: those named in each theorem. -/
import Derived.Test.YteockodnfempfaaP3
import Derived.Test.YteockodnfempfaaP1
import Derived.Test.YteockodnfempfaaP4
import Derived.Test.YteockodnfempfaaP21
import Derived.Laws.Strings
import Derived.ArgAppend
/- The struct types of this seat as Lean types, with the runs of single operations over them. Conditions: those named in each theorem. -/
namespace Go.Proofs.Yteockodnfempfaa
open Go Go.RowKit Go.Gv
set_option linter.unusedSimpArgs false

theorem na133 : aggT Try.prog 133 = false := by kernel_rfl
theorem us133 : (Try.prog.underlying 133).isSome = true := by kernel_rfl
theorem na217 : aggT Try.prog 217 = false := by kernel_rfl
theorem us217 : (Try.prog.underlying 217).isSome = true := by kernel_rfl

/-! ### gavel/gavelref15.House -/
structure GRef15House where
  l : Hdr
deriving DecidableEq
instance : Inhabited GRef15House := ⟨⟨default⟩⟩
def GRef15House.enc (x : GRef15House) : List Value := [(x.l.val)]
theorem GRef15House.enc_len (x : GRef15House) : x.enc.length = 1 := by simp [GRef15House.enc]
theorem GRef15House.enc_one (x : GRef15House) : ∀ u ∈ x.enc, u.oneCell' = true := by
  intro u hu
  simp only [GRef15House.enc, List.mem_append, List.mem_singleton] at hu
  subst hu; rfl
theorem GRef15House.enc_inj (x y : GRef15House) (h : x.enc = y.enc) : x = y := by
  obtain ⟨a0⟩ := x
  obtain ⟨b0⟩ := y
  simp only [GRef15House.enc] at h
  have e0 : a0 = b0 := Enc.inj (α := Hdr) _ _ h
  rw [e0]
instance : Enc GRef15House where
  n := 1
  enc := GRef15House.enc
  pos := by omega
  len := GRef15House.enc_len
  one := GRef15House.enc_one
  inj := GRef15House.enc_inj
@[go_sem] theorem GRef15House.n_eq : Enc.n GRef15House = 1 := rfl
@[irreducible] def GRef15House.val (x : GRef15House) : Value := .agg x.enc.toArray
theorem GRef15House.val_eq (x : GRef15House) : GRef15House.val x = .agg (Enc.enc x).toArray := by unfold GRef15House.val; rfl
theorem GRef15House.ext_all (x y : GRef15House) : x = y ↔ x.l = y.l := by
  constructor
  · intro h; cases h; simp
  · intro h; cases x; cases y; simp_all
theorem uu135 : Try.prog.underlying 135 = some (.struct (Try.prog.fieldsOf 135)) := by kernel_rfl
theorem st135 : Try.prog.stoodInHeld 135 = false := by kernel_rfl
theorem fl135 : fieldTO Try.prog 135 = [(133, 0)] := by kernel_rfl
theorem nb135 : noBlank Try.prog 135 = true := by kernel_rfl
@[go_sem ↓ high] theorem xl_GRef15House (ρ : Operand → Value) (dst : Option Tmp) (x : Operand) (ty : TypeId) (pos : String) (after : Array Edge) (guard : Option (Nat × Bool)) : execOp ρ { dst, op := .load 135 x, type := ty, pos, after, guard } = (do pure (.value (← gLoad 135 (ρ x)))) := ex_load ..
@[go_sem ↓ high] theorem xs_GRef15House (ρ : Operand → Value) (dst : Option Tmp) (x y : Operand) (ty : TypeId) (pos : String) (after : Array Edge) (guard : Option (Nat × Bool)) : execOp ρ { dst, op := .store 135 x y, type := ty, pos, after, guard } = (do gStore 135 (ρ x) (ρ y); pure .skip) := ex_store ..
@[go_sem ↓ high] theorem xb_GRef15House (ρ : Operand → Value) (dst : Option Tmp) (x : Operand) (ty : TypeId) (pos : String) (after : Array Edge) (guard : Option (Nat × Bool)) : execOp ρ { dst, op := .box 135 x, type := ty, pos, after, guard } = (do pure (.value (← gBox 135 (ρ x)))) := ex_box ..
@[go_sem ↓ high] theorem xa_GRef15House (ρ : Operand → Value) (dst : Option Tmp) (ty : TypeId) (pos : String) (after : Array Edge) (guard : Option (Nat × Bool)) : execOp ρ { dst, op := .alloc 135, type := ty, pos, after, guard } = (do pure (.value (← gAlloc 135))) := ex_alloc ..
theorem ag135 : aggT Try.prog 135 = true := by kernel_rfl
theorem sz135 : sizeT Try.prog 135 = 1 := by kernel_rfl
section
variable (w : World)
@[go_sem ↓ high] theorem ld_GRef15House (a : Addr) : (gLoad 135 (.pointer (some a))).run Try.prog w = ofOpt ((get? GRef15House w a).map GRef15House.val) w (noLoad Try.prog 135 a w) := by
  unfold gLoad; exact run_loadAt_opt ag135 sz135 GRef15House.val GRef15House.val_eq
@[go_sem ↓ high] theorem st_GRef15House (a : Addr) (x : GRef15House) : (gStore 135 (.pointer (some a)) (GRef15House.val x)).run Try.prog w = okU' ((get? GRef15House w a).isSome && blkFree w a.block) (World.putCells w a (GRef15House.enc x)) (noStore Try.prog 135 (.pointer (some a)) (GRef15House.val x) w) := run_gStore_any sz135 GRef15House.val GRef15House.val_eq w a x
@[go_sem ↓ high] theorem bx_GRef15House (x : GRef15House) : (gBox 135 (GRef15House.val x)).run Try.prog w = .ok (.pointer (some ⟨w.heap.size, 0, none⟩)) (w.alloc (.cells (GRef15House.enc x).toArray 135)) := by
  rw [GRef15House.val_eq]; exact run_gBox _ w
end
theorem lk135_0 (x : GRef15House) : x.enc[0]? = some (x.l.val) := by
  simp [GRef15House.enc, List.getElem?_append]
theorem pt135_0 (w : World) (x : GRef15House) : (part 133 x.enc.toArray 0).run Try.prog w = .ok (x.l.val) w := run_part_one na133 us133 (lk135_0 x)
@[go_sem ↓ high] theorem fd135_0 (w : World) (x : GRef15House) : (gField 135 (GRef15House.val x) 0).run Try.prog w = .ok (x.l.val) w := by
  rw [GRef15House.val_eq]
  exact run_gField w uu135 (by rw [fl135]; rfl) (pt135_0 w x)
@[go_sem ↓ high] theorem xf_GRef15House (ρ : Operand → Value) (dst : Option Tmp) (x : Operand) (i : Nat) (ty : TypeId) (pos : String) (after : Array Edge) (guard : Option (Nat × Bool)) : execOp ρ { dst, op := .field 135 x i, type := ty, pos, after, guard } = (do pure (.value (← gField 135 (ρ x) i))) := ex_field ..
theorem zr135 : zeroT Try.prog 135 = some (.agg (GRef15House.enc default).toArray) := by kernel_rfl
@[go_sem ↓ high] theorem al_GRef15House (w : World) : (gAlloc 135).run Try.prog w = .ok (.pointer (some ⟨w.heap.size, 0, none⟩)) (w.alloc (.cells (GRef15House.enc default).toArray 135)) := run_zero_alloc zr135 w
@[go_sem] theorem pc_GRef15House (w : World) (n : Nat) (x z : GRef15House) (hn : n = w.heap.size) : World.putCells (w.alloc (.cells (GRef15House.enc z).toArray 135)) ⟨n, 0, none⟩ (GRef15House.enc x) = w.alloc (.cells (GRef15House.enc x).toArray 135) := putCells_top x z hn
theorem GRef15House.at_l {w : World} {a : Addr} {x : GRef15House} (h : get? GRef15House w a = some x) : w.cell? (a.add 0) = some (x.l.val) := (get?_iff.1 h) _ _ (lk135_0 x)
@[go_sem] theorem nl135_0 (x : GRef15House) : x.enc[0]? = some (x.l.val) := by
  have h := (GRef15House.at_l (get?_new (w := (default : World)) 135 x))
  simp only [Addr.add_lit, Nat.zero_add, Nat.reduceAdd, World.cell?_alloc_new, List.getElem?_toArray] at h
  exact h
@[go_sem] theorem nw135 (w : World) (n : Nat) (x : GRef15House) (hn : n = w.heap.size) : get? GRef15House (w.alloc (.cells (GRef15House.enc x).toArray 135)) ⟨n, 0, none⟩ = some x := by
  subst hn; exact get?_new 135 x
theorem pl135 : ((Try.prog.fieldsOf 135).toList.mapM fun f => (Try.prog.info? f.type).map fun i => (f.offset, i.size)) = some [(0, 1)] := by kernel_rfl
theorem fs135_0 (x : GRef15House) (v : Hdr) (rest : List (Nat × Value)) : Instr.fill (fun i => ([(0, 1)] : List (Nat × Nat))[i]?) x.enc.toArray ((0, (v.val)) :: rest) = Instr.fill (fun i => ([(0, 1)] : List (Nat × Nat))[i]?) ({ x with l := v } : GRef15House).enc.toArray rest := by
  have h := fill_seg [(0, 1)] 0 0 1 rfl (([] : List Value)) ([(x.l.val)]) (([] : List Value)) ([(v.val)]) (v.val) rest (rfl) (by simp) (by simp) (by simp)
  have e1 : x.enc = (([] : List Value)) ++ ([(x.l.val)] ++ (([] : List Value))) := by simp [GRef15House.enc]
  have e2 : ({ x with l := v } : GRef15House).enc = (([] : List Value)) ++ ([(v.val)] ++ (([] : List Value))) := by simp [GRef15House.enc]
  rw [e1, e2]; exact h
@[go_sem ↓ high] theorem xd_GRef15House (ρ : Operand → Value) (dst : Option Tmp) (ps : Array (Nat × Operand)) (ty : TypeId) (pos : String) (after : Array Edge) (guard : Option (Nat × Bool)) : execOp ρ { dst, op := .build 135 ps, type := ty, pos, after, guard } = (do pure (.value (← gBuild 135 (ps.map fun (i, x) => (i, ρ x))))) := ex_build ..
@[go_sem ↓ high] theorem bd135_0 (w : World) (v0 : Hdr) : (gBuild 135 #[(0, (v0.val))]).run Try.prog w = .ok (GRef15House.val ⟨v0⟩) w := by
  rw [GRef15House.val_eq]
  refine run_gBuild_of uu135 zr135 pl135 ?_ w
  show Instr.fill _ (GRef15House.enc default).toArray [(0, (v0.val))] = _
  rw [fs135_0]; rfl

/-! ### gavel/gavelref15.Result -/
structure GRef15Result where
  name : ByteArray
  winner : Int
  price : Int
deriving DecidableEq
instance : Inhabited GRef15Result := ⟨⟨ByteArray.empty, 0, 0⟩⟩
def GRef15Result.enc (x : GRef15Result) : List Value := [(.string x.name)] ++ ([(.int .i64 x.winner)] ++ ([(.int .i64 x.price)]))
theorem GRef15Result.enc_len (x : GRef15Result) : x.enc.length = 3 := by simp [GRef15Result.enc]
theorem GRef15Result.enc_one (x : GRef15Result) : ∀ u ∈ x.enc, u.oneCell' = true := by
  intro u hu
  simp only [GRef15Result.enc, List.mem_append, List.mem_singleton] at hu
  rcases hu with hu | hu | hu
  · subst hu; rfl
  · subst hu; rfl
  · subst hu; rfl
theorem GRef15Result.enc_inj (x y : GRef15Result) (h : x.enc = y.enc) : x = y := by
  obtain ⟨a0, a1, a2⟩ := x
  obtain ⟨b0, b1, b2⟩ := y
  simp only [GRef15Result.enc] at h
  obtain ⟨p0, q0⟩ := List.append_inj h (rfl)
  have e0 : a0 = b0 := by have := List.head_eq_of_cons_eq p0; injection this
  obtain ⟨p1, q1⟩ := List.append_inj q0 (rfl)
  have e1 : a1 = b1 := by have := List.head_eq_of_cons_eq p1; injection this
  have e2 : a2 = b2 := by have := List.head_eq_of_cons_eq q1; injection this
  rw [e0, e1, e2]
instance : Enc GRef15Result where
  n := 3
  enc := GRef15Result.enc
  pos := by omega
  len := GRef15Result.enc_len
  one := GRef15Result.enc_one
  inj := GRef15Result.enc_inj
@[go_sem] theorem GRef15Result.n_eq : Enc.n GRef15Result = 3 := rfl
@[irreducible] def GRef15Result.val (x : GRef15Result) : Value := .agg x.enc.toArray
theorem GRef15Result.val_eq (x : GRef15Result) : GRef15Result.val x = .agg (Enc.enc x).toArray := by unfold GRef15Result.val; rfl
theorem GRef15Result.ext_all (x y : GRef15Result) : x = y ↔ x.name = y.name ∧ x.winner = y.winner ∧ x.price = y.price := by
  constructor
  · intro h; cases h; simp
  · intro h; cases x; cases y; simp_all
theorem uu190 : Try.prog.underlying 190 = some (.struct (Try.prog.fieldsOf 190)) := by kernel_rfl
theorem st190 : Try.prog.stoodInHeld 190 = false := by kernel_rfl
theorem fl190 : fieldTO Try.prog 190 = [(9, 0), (3, 1), (3, 2)] := by kernel_rfl
theorem nb190 : noBlank Try.prog 190 = true := by kernel_rfl
@[go_sem ↓ high] theorem xl_GRef15Result (ρ : Operand → Value) (dst : Option Tmp) (x : Operand) (ty : TypeId) (pos : String) (after : Array Edge) (guard : Option (Nat × Bool)) : execOp ρ { dst, op := .load 190 x, type := ty, pos, after, guard } = (do pure (.value (← gLoad 190 (ρ x)))) := ex_load ..
@[go_sem ↓ high] theorem xs_GRef15Result (ρ : Operand → Value) (dst : Option Tmp) (x y : Operand) (ty : TypeId) (pos : String) (after : Array Edge) (guard : Option (Nat × Bool)) : execOp ρ { dst, op := .store 190 x y, type := ty, pos, after, guard } = (do gStore 190 (ρ x) (ρ y); pure .skip) := ex_store ..
@[go_sem ↓ high] theorem xb_GRef15Result (ρ : Operand → Value) (dst : Option Tmp) (x : Operand) (ty : TypeId) (pos : String) (after : Array Edge) (guard : Option (Nat × Bool)) : execOp ρ { dst, op := .box 190 x, type := ty, pos, after, guard } = (do pure (.value (← gBox 190 (ρ x)))) := ex_box ..
@[go_sem ↓ high] theorem xa_GRef15Result (ρ : Operand → Value) (dst : Option Tmp) (ty : TypeId) (pos : String) (after : Array Edge) (guard : Option (Nat × Bool)) : execOp ρ { dst, op := .alloc 190, type := ty, pos, after, guard } = (do pure (.value (← gAlloc 190))) := ex_alloc ..
theorem ag190 : aggT Try.prog 190 = true := by kernel_rfl
theorem sz190 : sizeT Try.prog 190 = 3 := by kernel_rfl
section
variable (w : World)
@[go_sem ↓ high] theorem ld_GRef15Result (a : Addr) : (gLoad 190 (.pointer (some a))).run Try.prog w = ofOpt ((get? GRef15Result w a).map GRef15Result.val) w (noLoad Try.prog 190 a w) := by
  unfold gLoad; exact run_loadAt_opt ag190 sz190 GRef15Result.val GRef15Result.val_eq
@[go_sem ↓ high] theorem st_GRef15Result (a : Addr) (x : GRef15Result) : (gStore 190 (.pointer (some a)) (GRef15Result.val x)).run Try.prog w = okU' ((get? GRef15Result w a).isSome && blkFree w a.block) (World.putCells w a (GRef15Result.enc x)) (noStore Try.prog 190 (.pointer (some a)) (GRef15Result.val x) w) := run_gStore_any sz190 GRef15Result.val GRef15Result.val_eq w a x
@[go_sem ↓ high] theorem bx_GRef15Result (x : GRef15Result) : (gBox 190 (GRef15Result.val x)).run Try.prog w = .ok (.pointer (some ⟨w.heap.size, 0, none⟩)) (w.alloc (.cells (GRef15Result.enc x).toArray 190)) := by
  rw [GRef15Result.val_eq]; exact run_gBox _ w
end
theorem lk190_0 (x : GRef15Result) : x.enc[0]? = some (.string x.name) := by
  simp [GRef15Result.enc, List.getElem?_append]
theorem pt190_0 (w : World) (x : GRef15Result) : (part 9 x.enc.toArray 0).run Try.prog w = .ok (.string x.name) w := run_part_one na9 us9 (lk190_0 x)
@[go_sem ↓ high] theorem fd190_0 (w : World) (x : GRef15Result) : (gField 190 (GRef15Result.val x) 0).run Try.prog w = .ok (.string x.name) w := by
  rw [GRef15Result.val_eq]
  exact run_gField w uu190 (by rw [fl190]; rfl) (pt190_0 w x)
theorem lk190_1 (x : GRef15Result) : x.enc[1]? = some (.int .i64 x.winner) := by
  simp [GRef15Result.enc, List.getElem?_append]
theorem pt190_1 (w : World) (x : GRef15Result) : (part 3 x.enc.toArray 1).run Try.prog w = .ok (.int .i64 x.winner) w := run_part_one na3 us3 (lk190_1 x)
@[go_sem ↓ high] theorem fd190_1 (w : World) (x : GRef15Result) : (gField 190 (GRef15Result.val x) 1).run Try.prog w = .ok (.int .i64 x.winner) w := by
  rw [GRef15Result.val_eq]
  exact run_gField w uu190 (by rw [fl190]; rfl) (pt190_1 w x)
theorem lk190_2 (x : GRef15Result) : x.enc[2]? = some (.int .i64 x.price) := by
  simp [GRef15Result.enc, List.getElem?_append]
theorem pt190_2 (w : World) (x : GRef15Result) : (part 3 x.enc.toArray 2).run Try.prog w = .ok (.int .i64 x.price) w := run_part_one na3 us3 (lk190_2 x)
@[go_sem ↓ high] theorem fd190_2 (w : World) (x : GRef15Result) : (gField 190 (GRef15Result.val x) 2).run Try.prog w = .ok (.int .i64 x.price) w := by
  rw [GRef15Result.val_eq]
  exact run_gField w uu190 (by rw [fl190]; rfl) (pt190_2 w x)
@[go_sem ↓ high] theorem xf_GRef15Result (ρ : Operand → Value) (dst : Option Tmp) (x : Operand) (i : Nat) (ty : TypeId) (pos : String) (after : Array Edge) (guard : Option (Nat × Bool)) : execOp ρ { dst, op := .field 190 x i, type := ty, pos, after, guard } = (do pure (.value (← gField 190 (ρ x) i))) := ex_field ..
theorem zr190 : zeroT Try.prog 190 = some (.agg (GRef15Result.enc default).toArray) := by kernel_rfl
@[go_sem ↓ high] theorem al_GRef15Result (w : World) : (gAlloc 190).run Try.prog w = .ok (.pointer (some ⟨w.heap.size, 0, none⟩)) (w.alloc (.cells (GRef15Result.enc default).toArray 190)) := run_zero_alloc zr190 w
@[go_sem] theorem pc_GRef15Result (w : World) (n : Nat) (x z : GRef15Result) (hn : n = w.heap.size) : World.putCells (w.alloc (.cells (GRef15Result.enc z).toArray 190)) ⟨n, 0, none⟩ (GRef15Result.enc x) = w.alloc (.cells (GRef15Result.enc x).toArray 190) := putCells_top x z hn
theorem GRef15Result.at_name {w : World} {a : Addr} {x : GRef15Result} (h : get? GRef15Result w a = some x) : w.cell? (a.add 0) = some (.string x.name) := (get?_iff.1 h) _ _ (lk190_0 x)
theorem GRef15Result.at_winner {w : World} {a : Addr} {x : GRef15Result} (h : get? GRef15Result w a = some x) : w.cell? (a.add 1) = some (.int .i64 x.winner) := (get?_iff.1 h) _ _ (lk190_1 x)
theorem GRef15Result.at_price {w : World} {a : Addr} {x : GRef15Result} (h : get? GRef15Result w a = some x) : w.cell? (a.add 2) = some (.int .i64 x.price) := (get?_iff.1 h) _ _ (lk190_2 x)
@[go_sem] theorem nl190_0 (x : GRef15Result) : x.enc[0]? = some (.string x.name) := by
  have h := (GRef15Result.at_name (get?_new (w := (default : World)) 190 x))
  simp only [Addr.add_lit, Nat.zero_add, Nat.reduceAdd, World.cell?_alloc_new, List.getElem?_toArray] at h
  exact h
@[go_sem] theorem nl190_1 (x : GRef15Result) : x.enc[1]? = some (.int .i64 x.winner) := by
  have h := (GRef15Result.at_winner (get?_new (w := (default : World)) 190 x))
  simp only [Addr.add_lit, Nat.zero_add, Nat.reduceAdd, World.cell?_alloc_new, List.getElem?_toArray] at h
  exact h
@[go_sem] theorem nl190_2 (x : GRef15Result) : x.enc[2]? = some (.int .i64 x.price) := by
  have h := (GRef15Result.at_price (get?_new (w := (default : World)) 190 x))
  simp only [Addr.add_lit, Nat.zero_add, Nat.reduceAdd, World.cell?_alloc_new, List.getElem?_toArray] at h
  exact h
@[go_sem] theorem nw190 (w : World) (n : Nat) (x : GRef15Result) (hn : n = w.heap.size) : get? GRef15Result (w.alloc (.cells (GRef15Result.enc x).toArray 190)) ⟨n, 0, none⟩ = some x := by
  subst hn; exact get?_new 190 x
theorem pl190 : ((Try.prog.fieldsOf 190).toList.mapM fun f => (Try.prog.info? f.type).map fun i => (f.offset, i.size)) = some [(0, 1), (1, 1), (2, 1)] := by kernel_rfl
theorem fs190_0 (x : GRef15Result) (v : ByteArray) (rest : List (Nat × Value)) : Instr.fill (fun i => ([(0, 1), (1, 1), (2, 1)] : List (Nat × Nat))[i]?) x.enc.toArray ((0, (.string v)) :: rest) = Instr.fill (fun i => ([(0, 1), (1, 1), (2, 1)] : List (Nat × Nat))[i]?) ({ x with name := v } : GRef15Result).enc.toArray rest := by
  have h := fill_seg [(0, 1), (1, 1), (2, 1)] 0 0 1 rfl (([] : List Value)) ([(.string x.name)]) ([(.int .i64 x.winner)] ++ ([(.int .i64 x.price)] ++ (([] : List Value)))) ([(.string v)]) (.string v) rest (rfl) (by simp) (by simp) (by simp)
  have e1 : x.enc = (([] : List Value)) ++ ([(.string x.name)] ++ ([(.int .i64 x.winner)] ++ ([(.int .i64 x.price)] ++ (([] : List Value))))) := by simp [GRef15Result.enc]
  have e2 : ({ x with name := v } : GRef15Result).enc = (([] : List Value)) ++ ([(.string v)] ++ ([(.int .i64 x.winner)] ++ ([(.int .i64 x.price)] ++ (([] : List Value))))) := by simp [GRef15Result.enc]
  rw [e1, e2]; exact h
theorem fs190_1 (x : GRef15Result) (v : Int) (rest : List (Nat × Value)) : Instr.fill (fun i => ([(0, 1), (1, 1), (2, 1)] : List (Nat × Nat))[i]?) x.enc.toArray ((1, (.int .i64 v)) :: rest) = Instr.fill (fun i => ([(0, 1), (1, 1), (2, 1)] : List (Nat × Nat))[i]?) ({ x with winner := v } : GRef15Result).enc.toArray rest := by
  have h := fill_seg [(0, 1), (1, 1), (2, 1)] 1 1 1 rfl (([] : List Value) ++ ([(.string x.name)])) ([(.int .i64 x.winner)]) ([(.int .i64 x.price)] ++ (([] : List Value))) ([(.int .i64 v)]) (.int .i64 v) rest (rfl) (by simp) (by simp) (by simp)
  have e1 : x.enc = (([] : List Value) ++ ([(.string x.name)])) ++ ([(.int .i64 x.winner)] ++ ([(.int .i64 x.price)] ++ (([] : List Value)))) := by simp [GRef15Result.enc]
  have e2 : ({ x with winner := v } : GRef15Result).enc = (([] : List Value) ++ ([(.string x.name)])) ++ ([(.int .i64 v)] ++ ([(.int .i64 x.price)] ++ (([] : List Value)))) := by simp [GRef15Result.enc]
  rw [e1, e2]; exact h
@[go_sem ↓ high] theorem xd_GRef15Result (ρ : Operand → Value) (dst : Option Tmp) (ps : Array (Nat × Operand)) (ty : TypeId) (pos : String) (after : Array Edge) (guard : Option (Nat × Bool)) : execOp ρ { dst, op := .build 190 ps, type := ty, pos, after, guard } = (do pure (.value (← gBuild 190 (ps.map fun (i, x) => (i, ρ x))))) := ex_build ..
@[go_sem ↓ high] theorem bd190_0 (w : World) (v0 : ByteArray) (v1 : Int) : (gBuild 190 #[(0, (.string v0)), (1, (.int .i64 v1))]).run Try.prog w = .ok (GRef15Result.val ⟨v0, v1, 0⟩) w := by
  rw [GRef15Result.val_eq]
  refine run_gBuild_of uu190 zr190 pl190 ?_ w
  show Instr.fill _ (GRef15Result.enc default).toArray [(0, (.string v0)), (1, (.int .i64 v1))] = _
  rw [fs190_0, fs190_1]; rfl
theorem eq_GRef15Result (w : World) (d : Nat) (x y : GRef15Result) : (Op.equalIn (d + 2) 190 (GRef15Result.val x) (GRef15Result.val y)).run Try.prog w = .ok (decide (x = y)) w := by
  have q0 : ∀ a b, (Op.equalIn (d + 1) 9 (.string a) (.string b)).run Try.prog w = .ok (decide (a = b)) w := fun a b => by rw [run_equalIn_string w (d + 0) 9 a b uk9, bytes_beq]
  have q1 : ∀ a b, (Op.equalIn (d + 1) 3 (.int .i64 a) (.int .i64 b)).run Try.prog w = .ok (decide (a = b)) w := fun a b => by rw [run_equalIn_int w (d + 0) 3 .i64 .i64 a b uk3]; congr 1
  have q2 : ∀ a b, (Op.equalIn (d + 1) 3 (.int .i64 a) (.int .i64 b)).run Try.prog w = .ok (decide (a = b)) w := fun a b => by rw [run_equalIn_int w (d + 0) 3 .i64 .i64 a b uk3]; congr 1
  have h := run_equalIn_fields (d + 1) x.enc.toArray y.enc.toArray w uu190 st190 nb190
  rw [fl190] at h
  unfold GRef15Result.val
  refine h.trans ?_
  clear h
  simp only [eqFs, Sem.run_bind, pt190_0, pt190_1, pt190_2, q0, q1, q2, Result.andThen_ok, Sem.run_ite, Sem.run_pure]
  have he : decide (x = y) = (decide (x.name = y.name) && (decide (x.winner = y.winner) && (decide (x.price = y.price)))) := by
    rw [Bool.eq_iff_iff]; simp only [Bool.and_eq_true, decide_eq_true_eq]; exact GRef15Result.ext_all x y
  rw [he]
  generalize decide (x.name = y.name) = c0; generalize decide (x.winner = y.winner) = c1; generalize decide (x.price = y.price) = c2
  cases c0 <;> cases c1 <;> cases c2 <;> simp
@[go_sem ↓ high] theorem xq_GRef15Result (ρ : Operand → Value) (dst : Option Tmp) (x y : Operand) (ty yt : TypeId) (pos : String) (after : Array Edge) (guard : Option (Nat × Bool)) : execOp ρ { dst, op := .binOp .eql 190 x y yt, type := ty, pos, after, guard } = (do pure (.value (← gBin .eql 190 x y (ρ x) (ρ y)))) := ex_eql ..
@[go_sem ↓ high] theorem xn_GRef15Result (ρ : Operand → Value) (dst : Option Tmp) (x y : Operand) (ty yt : TypeId) (pos : String) (after : Array Edge) (guard : Option (Nat × Bool)) : execOp ρ { dst, op := .binOp .neq 190 x y yt, type := ty, pos, after, guard } = (do pure (.value (← gBin .neq 190 x y (ρ x) (ρ y)))) := ex_neq ..
theorem eg_GRef15Result : Try.prog.eqGuardType Try.prog.depth 190 = false := by kernel_rfl
@[go_sem ↓ high] theorem eql_GRef15Result (w : World) (ox oy : Operand) (x y : GRef15Result) : (gBin .eql 190 ox oy (GRef15Result.val x) (GRef15Result.val y)).run Try.prog w = .ok (.bool (decide (x = y))) w := by
  have h2 := eq_GRef15Result w 9998 x y
  rw [GRef15Result.val_eq, GRef15Result.val_eq] at h2 ⊢
  have h := run_eqGuard_agg (P := Try.prog) w .eql 190 ox oy (Enc.enc x).toArray (Enc.enc y).toArray eg_GRef15Result
  unfold gBin
  simp only [Sem.run_bind, h, Result.andThen_ok, run_eql_struct, h2]
@[go_sem ↓ high] theorem neq_GRef15Result (w : World) (ox oy : Operand) (x y : GRef15Result) : (gBin .neq 190 ox oy (GRef15Result.val x) (GRef15Result.val y)).run Try.prog w = .ok (.bool (!decide (x = y))) w := by
  have h2 := eq_GRef15Result w 9998 x y
  rw [GRef15Result.val_eq, GRef15Result.val_eq] at h2 ⊢
  have h := run_eqGuard_agg (P := Try.prog) w .neq 190 ox oy (Enc.enc x).toArray (Enc.enc y).toArray eg_GRef15Result
  unfold gBin
  simp only [Sem.run_bind, h, Result.andThen_ok, run_neq_struct, h2]

/-! ### gavel/gavelref15.sale -/
structure GRef15Sale where
  name : ByteArray
  vickrey : Bool
  reserve : Int
  close : Int
  bids : Hdr
  settled : Bool
  r : GRef15Result
deriving DecidableEq
instance : Inhabited GRef15Sale := ⟨⟨ByteArray.empty, false, 0, 0, default, false, default⟩⟩
def GRef15Sale.enc (x : GRef15Sale) : List Value := [(.string x.name)] ++ ([(.bool x.vickrey)] ++ ([(.int .i64 x.reserve)] ++ ([(.int .u64 x.close)] ++ ([(x.bids.val)] ++ ([(.bool x.settled)] ++ (x.r.enc))))))
theorem GRef15Sale.enc_len (x : GRef15Sale) : x.enc.length = 9 := by simp [GRef15Sale.enc, GRef15Result.enc_len]
theorem GRef15Sale.enc_one (x : GRef15Sale) : ∀ u ∈ x.enc, u.oneCell' = true := by
  intro u hu
  simp only [GRef15Sale.enc, List.mem_append, List.mem_singleton] at hu
  rcases hu with hu | hu | hu | hu | hu | hu | hu
  · subst hu; rfl
  · subst hu; rfl
  · subst hu; rfl
  · subst hu; rfl
  · subst hu; rfl
  · subst hu; rfl
  · exact Enc.one (α := GRef15Result) _ _ hu
theorem GRef15Sale.enc_inj (x y : GRef15Sale) (h : x.enc = y.enc) : x = y := by
  obtain ⟨a0, a1, a2, a3, a4, a5, a6⟩ := x
  obtain ⟨b0, b1, b2, b3, b4, b5, b6⟩ := y
  simp only [GRef15Sale.enc] at h
  obtain ⟨p0, q0⟩ := List.append_inj h (rfl)
  have e0 : a0 = b0 := by have := List.head_eq_of_cons_eq p0; injection this
  obtain ⟨p1, q1⟩ := List.append_inj q0 (rfl)
  have e1 : a1 = b1 := by have := List.head_eq_of_cons_eq p1; injection this
  obtain ⟨p2, q2⟩ := List.append_inj q1 (rfl)
  have e2 : a2 = b2 := by have := List.head_eq_of_cons_eq p2; injection this
  obtain ⟨p3, q3⟩ := List.append_inj q2 (rfl)
  have e3 : a3 = b3 := by have := List.head_eq_of_cons_eq p3; injection this
  obtain ⟨p4, q4⟩ := List.append_inj q3 (rfl)
  have e4 : a4 = b4 := Enc.inj (α := Hdr) _ _ p4
  obtain ⟨p5, q5⟩ := List.append_inj q4 (rfl)
  have e5 : a5 = b5 := by have := List.head_eq_of_cons_eq p5; injection this
  have e6 := Enc.inj (α := GRef15Result) _ _ q5
  rw [e0, e1, e2, e3, e4, e5, e6]
instance : Enc GRef15Sale where
  n := 9
  enc := GRef15Sale.enc
  pos := by omega
  len := GRef15Sale.enc_len
  one := GRef15Sale.enc_one
  inj := GRef15Sale.enc_inj
@[go_sem] theorem GRef15Sale.n_eq : Enc.n GRef15Sale = 9 := rfl
@[irreducible] def GRef15Sale.val (x : GRef15Sale) : Value := .agg x.enc.toArray
theorem GRef15Sale.val_eq (x : GRef15Sale) : GRef15Sale.val x = .agg (Enc.enc x).toArray := by unfold GRef15Sale.val; rfl
theorem GRef15Sale.ext_all (x y : GRef15Sale) : x = y ↔ x.name = y.name ∧ x.vickrey = y.vickrey ∧ x.reserve = y.reserve ∧ x.close = y.close ∧ x.bids = y.bids ∧ x.settled = y.settled ∧ x.r = y.r := by
  constructor
  · intro h; cases h; simp
  · intro h; cases x; cases y; simp_all
theorem uu219 : Try.prog.underlying 219 = some (.struct (Try.prog.fieldsOf 219)) := by kernel_rfl
theorem st219 : Try.prog.stoodInHeld 219 = false := by kernel_rfl
theorem fl219 : fieldTO Try.prog 219 = [(9, 0), (4, 1), (3, 2), (28, 3), (217, 4), (4, 5), (190, 6)] := by kernel_rfl
theorem nb219 : noBlank Try.prog 219 = true := by kernel_rfl
@[go_sem ↓ high] theorem xl_GRef15Sale (ρ : Operand → Value) (dst : Option Tmp) (x : Operand) (ty : TypeId) (pos : String) (after : Array Edge) (guard : Option (Nat × Bool)) : execOp ρ { dst, op := .load 219 x, type := ty, pos, after, guard } = (do pure (.value (← gLoad 219 (ρ x)))) := ex_load ..
@[go_sem ↓ high] theorem xs_GRef15Sale (ρ : Operand → Value) (dst : Option Tmp) (x y : Operand) (ty : TypeId) (pos : String) (after : Array Edge) (guard : Option (Nat × Bool)) : execOp ρ { dst, op := .store 219 x y, type := ty, pos, after, guard } = (do gStore 219 (ρ x) (ρ y); pure .skip) := ex_store ..
@[go_sem ↓ high] theorem xb_GRef15Sale (ρ : Operand → Value) (dst : Option Tmp) (x : Operand) (ty : TypeId) (pos : String) (after : Array Edge) (guard : Option (Nat × Bool)) : execOp ρ { dst, op := .box 219 x, type := ty, pos, after, guard } = (do pure (.value (← gBox 219 (ρ x)))) := ex_box ..
@[go_sem ↓ high] theorem xa_GRef15Sale (ρ : Operand → Value) (dst : Option Tmp) (ty : TypeId) (pos : String) (after : Array Edge) (guard : Option (Nat × Bool)) : execOp ρ { dst, op := .alloc 219, type := ty, pos, after, guard } = (do pure (.value (← gAlloc 219))) := ex_alloc ..
theorem ag219 : aggT Try.prog 219 = true := by kernel_rfl
theorem sz219 : sizeT Try.prog 219 = 9 := by kernel_rfl
section
variable (w : World)
@[go_sem ↓ high] theorem ld_GRef15Sale (a : Addr) : (gLoad 219 (.pointer (some a))).run Try.prog w = ofOpt ((get? GRef15Sale w a).map GRef15Sale.val) w (noLoad Try.prog 219 a w) := by
  unfold gLoad; exact run_loadAt_opt ag219 sz219 GRef15Sale.val GRef15Sale.val_eq
@[go_sem ↓ high] theorem st_GRef15Sale (a : Addr) (x : GRef15Sale) : (gStore 219 (.pointer (some a)) (GRef15Sale.val x)).run Try.prog w = okU' ((get? GRef15Sale w a).isSome && blkFree w a.block) (World.putCells w a (GRef15Sale.enc x)) (noStore Try.prog 219 (.pointer (some a)) (GRef15Sale.val x) w) := run_gStore_any sz219 GRef15Sale.val GRef15Sale.val_eq w a x
@[go_sem ↓ high] theorem bx_GRef15Sale (x : GRef15Sale) : (gBox 219 (GRef15Sale.val x)).run Try.prog w = .ok (.pointer (some ⟨w.heap.size, 0, none⟩)) (w.alloc (.cells (GRef15Sale.enc x).toArray 219)) := by
  rw [GRef15Sale.val_eq]; exact run_gBox _ w
end
theorem lk219_0 (x : GRef15Sale) : x.enc[0]? = some (.string x.name) := by
  simp [GRef15Sale.enc, List.getElem?_append]
theorem pt219_0 (w : World) (x : GRef15Sale) : (part 9 x.enc.toArray 0).run Try.prog w = .ok (.string x.name) w := run_part_one na9 us9 (lk219_0 x)
@[go_sem ↓ high] theorem fd219_0 (w : World) (x : GRef15Sale) : (gField 219 (GRef15Sale.val x) 0).run Try.prog w = .ok (.string x.name) w := by
  rw [GRef15Sale.val_eq]
  exact run_gField w uu219 (by rw [fl219]; rfl) (pt219_0 w x)
theorem lk219_1 (x : GRef15Sale) : x.enc[1]? = some (.bool x.vickrey) := by
  simp [GRef15Sale.enc, List.getElem?_append]
theorem pt219_1 (w : World) (x : GRef15Sale) : (part 4 x.enc.toArray 1).run Try.prog w = .ok (.bool x.vickrey) w := run_part_one na4 us4 (lk219_1 x)
@[go_sem ↓ high] theorem fd219_1 (w : World) (x : GRef15Sale) : (gField 219 (GRef15Sale.val x) 1).run Try.prog w = .ok (.bool x.vickrey) w := by
  rw [GRef15Sale.val_eq]
  exact run_gField w uu219 (by rw [fl219]; rfl) (pt219_1 w x)
theorem lk219_2 (x : GRef15Sale) : x.enc[2]? = some (.int .i64 x.reserve) := by
  simp [GRef15Sale.enc, List.getElem?_append]
theorem pt219_2 (w : World) (x : GRef15Sale) : (part 3 x.enc.toArray 2).run Try.prog w = .ok (.int .i64 x.reserve) w := run_part_one na3 us3 (lk219_2 x)
@[go_sem ↓ high] theorem fd219_2 (w : World) (x : GRef15Sale) : (gField 219 (GRef15Sale.val x) 2).run Try.prog w = .ok (.int .i64 x.reserve) w := by
  rw [GRef15Sale.val_eq]
  exact run_gField w uu219 (by rw [fl219]; rfl) (pt219_2 w x)
theorem lk219_3 (x : GRef15Sale) : x.enc[3]? = some (.int .u64 x.close) := by
  simp [GRef15Sale.enc, List.getElem?_append]
theorem pt219_3 (w : World) (x : GRef15Sale) : (part 28 x.enc.toArray 3).run Try.prog w = .ok (.int .u64 x.close) w := run_part_one na28 us28 (lk219_3 x)
@[go_sem ↓ high] theorem fd219_3 (w : World) (x : GRef15Sale) : (gField 219 (GRef15Sale.val x) 3).run Try.prog w = .ok (.int .u64 x.close) w := by
  rw [GRef15Sale.val_eq]
  exact run_gField w uu219 (by rw [fl219]; rfl) (pt219_3 w x)
theorem lk219_4 (x : GRef15Sale) : x.enc[4]? = some (x.bids.val) := by
  simp [GRef15Sale.enc, List.getElem?_append]
theorem pt219_4 (w : World) (x : GRef15Sale) : (part 217 x.enc.toArray 4).run Try.prog w = .ok (x.bids.val) w := run_part_one na217 us217 (lk219_4 x)
@[go_sem ↓ high] theorem fd219_4 (w : World) (x : GRef15Sale) : (gField 219 (GRef15Sale.val x) 4).run Try.prog w = .ok (x.bids.val) w := by
  rw [GRef15Sale.val_eq]
  exact run_gField w uu219 (by rw [fl219]; rfl) (pt219_4 w x)
theorem lk219_5 (x : GRef15Sale) : x.enc[5]? = some (.bool x.settled) := by
  simp [GRef15Sale.enc, List.getElem?_append]
theorem pt219_5 (w : World) (x : GRef15Sale) : (part 4 x.enc.toArray 5).run Try.prog w = .ok (.bool x.settled) w := run_part_one na4 us4 (lk219_5 x)
@[go_sem ↓ high] theorem fd219_5 (w : World) (x : GRef15Sale) : (gField 219 (GRef15Sale.val x) 5).run Try.prog w = .ok (.bool x.settled) w := by
  rw [GRef15Sale.val_eq]
  exact run_gField w uu219 (by rw [fl219]; rfl) (pt219_5 w x)
theorem ds219_6 (x : GRef15Sale) : (x.enc.drop 6).take 3 = x.r.enc := by
  unfold GRef15Sale.enc
  simp [List.drop_append, List.drop_eq_nil_of_le]
  exact List.take_of_length_le (by simp [GRef15Result.enc_len])
theorem pt219_6 (w : World) (x : GRef15Sale) : (part 190 x.enc.toArray 6).run Try.prog w = .ok (x.r.val) w := by
  have h := run_part_agg (P := Try.prog) (w := w) (cs := x.enc) (ds := x.r.enc) (off := 6) ag190 (by rw [GRef15Result.enc_len]; exact sz190) (by simp [GRef15Result.enc_len]) (by rw [GRef15Result.enc_len]; exact ds219_6 x)
  rw [h, GRef15Result.val_eq]; rfl
@[go_sem ↓ high] theorem fd219_6 (w : World) (x : GRef15Sale) : (gField 219 (GRef15Sale.val x) 6).run Try.prog w = .ok (x.r.val) w := by
  rw [GRef15Sale.val_eq]
  exact run_gField w uu219 (by rw [fl219]; rfl) (pt219_6 w x)
@[go_sem ↓ high] theorem xf_GRef15Sale (ρ : Operand → Value) (dst : Option Tmp) (x : Operand) (i : Nat) (ty : TypeId) (pos : String) (after : Array Edge) (guard : Option (Nat × Bool)) : execOp ρ { dst, op := .field 219 x i, type := ty, pos, after, guard } = (do pure (.value (← gField 219 (ρ x) i))) := ex_field ..
theorem zr219 : zeroT Try.prog 219 = some (.agg (GRef15Sale.enc default).toArray) := by kernel_rfl
@[go_sem ↓ high] theorem al_GRef15Sale (w : World) : (gAlloc 219).run Try.prog w = .ok (.pointer (some ⟨w.heap.size, 0, none⟩)) (w.alloc (.cells (GRef15Sale.enc default).toArray 219)) := run_zero_alloc zr219 w
@[go_sem] theorem pc_GRef15Sale (w : World) (n : Nat) (x z : GRef15Sale) (hn : n = w.heap.size) : World.putCells (w.alloc (.cells (GRef15Sale.enc z).toArray 219)) ⟨n, 0, none⟩ (GRef15Sale.enc x) = w.alloc (.cells (GRef15Sale.enc x).toArray 219) := putCells_top x z hn
theorem GRef15Sale.at_name {w : World} {a : Addr} {x : GRef15Sale} (h : get? GRef15Sale w a = some x) : w.cell? (a.add 0) = some (.string x.name) := (get?_iff.1 h) _ _ (lk219_0 x)
theorem GRef15Sale.at_vickrey {w : World} {a : Addr} {x : GRef15Sale} (h : get? GRef15Sale w a = some x) : w.cell? (a.add 1) = some (.bool x.vickrey) := (get?_iff.1 h) _ _ (lk219_1 x)
theorem GRef15Sale.at_reserve {w : World} {a : Addr} {x : GRef15Sale} (h : get? GRef15Sale w a = some x) : w.cell? (a.add 2) = some (.int .i64 x.reserve) := (get?_iff.1 h) _ _ (lk219_2 x)
theorem GRef15Sale.at_close {w : World} {a : Addr} {x : GRef15Sale} (h : get? GRef15Sale w a = some x) : w.cell? (a.add 3) = some (.int .u64 x.close) := (get?_iff.1 h) _ _ (lk219_3 x)
theorem GRef15Sale.at_bids {w : World} {a : Addr} {x : GRef15Sale} (h : get? GRef15Sale w a = some x) : w.cell? (a.add 4) = some (x.bids.val) := (get?_iff.1 h) _ _ (lk219_4 x)
theorem GRef15Sale.at_settled {w : World} {a : Addr} {x : GRef15Sale} (h : get? GRef15Sale w a = some x) : w.cell? (a.add 5) = some (.bool x.settled) := (get?_iff.1 h) _ _ (lk219_5 x)
theorem GRef15Sale.at_r {w : World} {a : Addr} {x : GRef15Sale} (h : get? GRef15Sale w a = some x) : get? GRef15Result w (a.add 6) = some x.r := by
  rw [get?_iff] at h ⊢
  refine h.sub 6 fun j v hv => ?_
  have hd := ds219_6 x
  have hj : j < 3 := by have := (List.getElem?_eq_some_iff.1 hv).1; rwa [Enc.len] at this
  show x.enc[6 + j]? = some v
  rw [← List.getElem?_drop, ← List.getElem?_take_of_lt hj, hd]; exact hv
@[go_sem] theorem nl219_0 (x : GRef15Sale) : x.enc[0]? = some (.string x.name) := by
  have h := (GRef15Sale.at_name (get?_new (w := (default : World)) 219 x))
  simp only [Addr.add_lit, Nat.zero_add, Nat.reduceAdd, World.cell?_alloc_new, List.getElem?_toArray] at h
  exact h
@[go_sem] theorem nl219_1 (x : GRef15Sale) : x.enc[1]? = some (.bool x.vickrey) := by
  have h := (GRef15Sale.at_vickrey (get?_new (w := (default : World)) 219 x))
  simp only [Addr.add_lit, Nat.zero_add, Nat.reduceAdd, World.cell?_alloc_new, List.getElem?_toArray] at h
  exact h
@[go_sem] theorem nl219_2 (x : GRef15Sale) : x.enc[2]? = some (.int .i64 x.reserve) := by
  have h := (GRef15Sale.at_reserve (get?_new (w := (default : World)) 219 x))
  simp only [Addr.add_lit, Nat.zero_add, Nat.reduceAdd, World.cell?_alloc_new, List.getElem?_toArray] at h
  exact h
@[go_sem] theorem nl219_3 (x : GRef15Sale) : x.enc[3]? = some (.int .u64 x.close) := by
  have h := (GRef15Sale.at_close (get?_new (w := (default : World)) 219 x))
  simp only [Addr.add_lit, Nat.zero_add, Nat.reduceAdd, World.cell?_alloc_new, List.getElem?_toArray] at h
  exact h
@[go_sem] theorem nl219_4 (x : GRef15Sale) : x.enc[4]? = some (x.bids.val) := by
  have h := (GRef15Sale.at_bids (get?_new (w := (default : World)) 219 x))
  simp only [Addr.add_lit, Nat.zero_add, Nat.reduceAdd, World.cell?_alloc_new, List.getElem?_toArray] at h
  exact h
@[go_sem] theorem nl219_5 (x : GRef15Sale) : x.enc[5]? = some (.bool x.settled) := by
  have h := (GRef15Sale.at_settled (get?_new (w := (default : World)) 219 x))
  simp only [Addr.add_lit, Nat.zero_add, Nat.reduceAdd, World.cell?_alloc_new, List.getElem?_toArray] at h
  exact h
@[go_sem] theorem nw219_6_GRef15Result (w : World) (n : Nat) (x : GRef15Sale) (hn : n = w.heap.size) : get? GRef15Result (w.alloc (.cells (GRef15Sale.enc x).toArray 219)) ⟨n, 6, none⟩ = some x.r := by
  subst hn
  have h := (GRef15Sale.at_r (get?_new (w := w) 219 x))
  simp only [Addr.add_lit, Nat.zero_add, Nat.reduceAdd] at h
  exact h
@[go_sem] theorem nl219_6 (x : GRef15Sale) : x.enc[6]? = some (.string x.r.name) := by
  have h := (GRef15Result.at_name (GRef15Sale.at_r (get?_new (w := (default : World)) 219 x)))
  simp only [Addr.add_lit, Nat.zero_add, Nat.reduceAdd, World.cell?_alloc_new, List.getElem?_toArray] at h
  exact h
@[go_sem] theorem nl219_7 (x : GRef15Sale) : x.enc[7]? = some (.int .i64 x.r.winner) := by
  have h := (GRef15Result.at_winner (GRef15Sale.at_r (get?_new (w := (default : World)) 219 x)))
  simp only [Addr.add_lit, Nat.zero_add, Nat.reduceAdd, World.cell?_alloc_new, List.getElem?_toArray] at h
  exact h
@[go_sem] theorem nl219_8 (x : GRef15Sale) : x.enc[8]? = some (.int .i64 x.r.price) := by
  have h := (GRef15Result.at_price (GRef15Sale.at_r (get?_new (w := (default : World)) 219 x)))
  simp only [Addr.add_lit, Nat.zero_add, Nat.reduceAdd, World.cell?_alloc_new, List.getElem?_toArray] at h
  exact h
@[go_sem] theorem nw219 (w : World) (n : Nat) (x : GRef15Sale) (hn : n = w.heap.size) : get? GRef15Sale (w.alloc (.cells (GRef15Sale.enc x).toArray 219)) ⟨n, 0, none⟩ = some x := by
  subst hn; exact get?_new 219 x
theorem pl219 : ((Try.prog.fieldsOf 219).toList.mapM fun f => (Try.prog.info? f.type).map fun i => (f.offset, i.size)) = some [(0, 1), (1, 1), (2, 1), (3, 1), (4, 1), (5, 1), (6, 3)] := by kernel_rfl
theorem fs219_0 (x : GRef15Sale) (v : ByteArray) (rest : List (Nat × Value)) : Instr.fill (fun i => ([(0, 1), (1, 1), (2, 1), (3, 1), (4, 1), (5, 1), (6, 3)] : List (Nat × Nat))[i]?) x.enc.toArray ((0, (.string v)) :: rest) = Instr.fill (fun i => ([(0, 1), (1, 1), (2, 1), (3, 1), (4, 1), (5, 1), (6, 3)] : List (Nat × Nat))[i]?) ({ x with name := v } : GRef15Sale).enc.toArray rest := by
  have h := fill_seg [(0, 1), (1, 1), (2, 1), (3, 1), (4, 1), (5, 1), (6, 3)] 0 0 1 rfl (([] : List Value)) ([(.string x.name)]) ([(.bool x.vickrey)] ++ ([(.int .i64 x.reserve)] ++ ([(.int .u64 x.close)] ++ ([(x.bids.val)] ++ ([(.bool x.settled)] ++ (x.r.enc ++ (([] : List Value)))))))) ([(.string v)]) (.string v) rest (rfl) (by simp [GRef15Result.enc_len]) (by simp [GRef15Result.enc_len]) (by simp [GRef15Result.enc_len])
  have e1 : x.enc = (([] : List Value)) ++ ([(.string x.name)] ++ ([(.bool x.vickrey)] ++ ([(.int .i64 x.reserve)] ++ ([(.int .u64 x.close)] ++ ([(x.bids.val)] ++ ([(.bool x.settled)] ++ (x.r.enc ++ (([] : List Value))))))))) := by simp [GRef15Sale.enc]
  have e2 : ({ x with name := v } : GRef15Sale).enc = (([] : List Value)) ++ ([(.string v)] ++ ([(.bool x.vickrey)] ++ ([(.int .i64 x.reserve)] ++ ([(.int .u64 x.close)] ++ ([(x.bids.val)] ++ ([(.bool x.settled)] ++ (x.r.enc ++ (([] : List Value))))))))) := by simp [GRef15Sale.enc]
  rw [e1, e2]; exact h
theorem fs219_1 (x : GRef15Sale) (v : Bool) (rest : List (Nat × Value)) : Instr.fill (fun i => ([(0, 1), (1, 1), (2, 1), (3, 1), (4, 1), (5, 1), (6, 3)] : List (Nat × Nat))[i]?) x.enc.toArray ((1, (.bool v)) :: rest) = Instr.fill (fun i => ([(0, 1), (1, 1), (2, 1), (3, 1), (4, 1), (5, 1), (6, 3)] : List (Nat × Nat))[i]?) ({ x with vickrey := v } : GRef15Sale).enc.toArray rest := by
  have h := fill_seg [(0, 1), (1, 1), (2, 1), (3, 1), (4, 1), (5, 1), (6, 3)] 1 1 1 rfl (([] : List Value) ++ ([(.string x.name)])) ([(.bool x.vickrey)]) ([(.int .i64 x.reserve)] ++ ([(.int .u64 x.close)] ++ ([(x.bids.val)] ++ ([(.bool x.settled)] ++ (x.r.enc ++ (([] : List Value))))))) ([(.bool v)]) (.bool v) rest (rfl) (by simp [GRef15Result.enc_len]) (by simp [GRef15Result.enc_len]) (by simp [GRef15Result.enc_len])
  have e1 : x.enc = (([] : List Value) ++ ([(.string x.name)])) ++ ([(.bool x.vickrey)] ++ ([(.int .i64 x.reserve)] ++ ([(.int .u64 x.close)] ++ ([(x.bids.val)] ++ ([(.bool x.settled)] ++ (x.r.enc ++ (([] : List Value)))))))) := by simp [GRef15Sale.enc]
  have e2 : ({ x with vickrey := v } : GRef15Sale).enc = (([] : List Value) ++ ([(.string x.name)])) ++ ([(.bool v)] ++ ([(.int .i64 x.reserve)] ++ ([(.int .u64 x.close)] ++ ([(x.bids.val)] ++ ([(.bool x.settled)] ++ (x.r.enc ++ (([] : List Value)))))))) := by simp [GRef15Sale.enc]
  rw [e1, e2]; exact h
theorem fs219_2 (x : GRef15Sale) (v : Int) (rest : List (Nat × Value)) : Instr.fill (fun i => ([(0, 1), (1, 1), (2, 1), (3, 1), (4, 1), (5, 1), (6, 3)] : List (Nat × Nat))[i]?) x.enc.toArray ((2, (.int .i64 v)) :: rest) = Instr.fill (fun i => ([(0, 1), (1, 1), (2, 1), (3, 1), (4, 1), (5, 1), (6, 3)] : List (Nat × Nat))[i]?) ({ x with reserve := v } : GRef15Sale).enc.toArray rest := by
  have h := fill_seg [(0, 1), (1, 1), (2, 1), (3, 1), (4, 1), (5, 1), (6, 3)] 2 2 1 rfl (([] : List Value) ++ ([(.string x.name)] ++ ([(.bool x.vickrey)]))) ([(.int .i64 x.reserve)]) ([(.int .u64 x.close)] ++ ([(x.bids.val)] ++ ([(.bool x.settled)] ++ (x.r.enc ++ (([] : List Value)))))) ([(.int .i64 v)]) (.int .i64 v) rest (rfl) (by simp [GRef15Result.enc_len]) (by simp [GRef15Result.enc_len]) (by simp [GRef15Result.enc_len])
  have e1 : x.enc = (([] : List Value) ++ ([(.string x.name)] ++ ([(.bool x.vickrey)]))) ++ ([(.int .i64 x.reserve)] ++ ([(.int .u64 x.close)] ++ ([(x.bids.val)] ++ ([(.bool x.settled)] ++ (x.r.enc ++ (([] : List Value))))))) := by simp [GRef15Sale.enc]
  have e2 : ({ x with reserve := v } : GRef15Sale).enc = (([] : List Value) ++ ([(.string x.name)] ++ ([(.bool x.vickrey)]))) ++ ([(.int .i64 v)] ++ ([(.int .u64 x.close)] ++ ([(x.bids.val)] ++ ([(.bool x.settled)] ++ (x.r.enc ++ (([] : List Value))))))) := by simp [GRef15Sale.enc]
  rw [e1, e2]; exact h
theorem fs219_3 (x : GRef15Sale) (v : Int) (rest : List (Nat × Value)) : Instr.fill (fun i => ([(0, 1), (1, 1), (2, 1), (3, 1), (4, 1), (5, 1), (6, 3)] : List (Nat × Nat))[i]?) x.enc.toArray ((3, (.int .u64 v)) :: rest) = Instr.fill (fun i => ([(0, 1), (1, 1), (2, 1), (3, 1), (4, 1), (5, 1), (6, 3)] : List (Nat × Nat))[i]?) ({ x with close := v } : GRef15Sale).enc.toArray rest := by
  have h := fill_seg [(0, 1), (1, 1), (2, 1), (3, 1), (4, 1), (5, 1), (6, 3)] 3 3 1 rfl (([] : List Value) ++ ([(.string x.name)] ++ ([(.bool x.vickrey)] ++ ([(.int .i64 x.reserve)])))) ([(.int .u64 x.close)]) ([(x.bids.val)] ++ ([(.bool x.settled)] ++ (x.r.enc ++ (([] : List Value))))) ([(.int .u64 v)]) (.int .u64 v) rest (rfl) (by simp [GRef15Result.enc_len]) (by simp [GRef15Result.enc_len]) (by simp [GRef15Result.enc_len])
  have e1 : x.enc = (([] : List Value) ++ ([(.string x.name)] ++ ([(.bool x.vickrey)] ++ ([(.int .i64 x.reserve)])))) ++ ([(.int .u64 x.close)] ++ ([(x.bids.val)] ++ ([(.bool x.settled)] ++ (x.r.enc ++ (([] : List Value)))))) := by simp [GRef15Sale.enc]
  have e2 : ({ x with close := v } : GRef15Sale).enc = (([] : List Value) ++ ([(.string x.name)] ++ ([(.bool x.vickrey)] ++ ([(.int .i64 x.reserve)])))) ++ ([(.int .u64 v)] ++ ([(x.bids.val)] ++ ([(.bool x.settled)] ++ (x.r.enc ++ (([] : List Value)))))) := by simp [GRef15Sale.enc]
  rw [e1, e2]; exact h
@[go_sem ↓ high] theorem xd_GRef15Sale (ρ : Operand → Value) (dst : Option Tmp) (ps : Array (Nat × Operand)) (ty : TypeId) (pos : String) (after : Array Edge) (guard : Option (Nat × Bool)) : execOp ρ { dst, op := .build 219 ps, type := ty, pos, after, guard } = (do pure (.value (← gBuild 219 (ps.map fun (i, x) => (i, ρ x))))) := ex_build ..
@[go_sem ↓ high] theorem bd219_0 (w : World) (v0 : ByteArray) (v1 : Bool) (v2 : Int) (v3 : Int) : (gBuild 219 #[(0, (.string v0)), (1, (.bool v1)), (2, (.int .i64 v2)), (3, (.int .u64 v3))]).run Try.prog w = .ok (GRef15Sale.val ⟨v0, v1, v2, v3, default, false, default⟩) w := by
  rw [GRef15Sale.val_eq]
  refine run_gBuild_of uu219 zr219 pl219 ?_ w
  show Instr.fill _ (GRef15Sale.enc default).toArray [(0, (.string v0)), (1, (.bool v1)), (2, (.int .i64 v2)), (3, (.int .u64 v3))] = _
  rw [fs219_0, fs219_1, fs219_2, fs219_3]; rfl

/-! ### gavel/gavelref15.bid -/
structure GRef15Bid where
  client : Int
  amount : Int
deriving DecidableEq
instance : Inhabited GRef15Bid := ⟨⟨0, 0⟩⟩
def GRef15Bid.enc (x : GRef15Bid) : List Value := [(.int .i64 x.client)] ++ ([(.int .i64 x.amount)])
theorem GRef15Bid.enc_len (x : GRef15Bid) : x.enc.length = 2 := by simp [GRef15Bid.enc]
theorem GRef15Bid.enc_one (x : GRef15Bid) : ∀ u ∈ x.enc, u.oneCell' = true := by
  intro u hu
  simp only [GRef15Bid.enc, List.mem_append, List.mem_singleton] at hu
  rcases hu with hu | hu
  · subst hu; rfl
  · subst hu; rfl
theorem GRef15Bid.enc_inj (x y : GRef15Bid) (h : x.enc = y.enc) : x = y := by
  obtain ⟨a0, a1⟩ := x
  obtain ⟨b0, b1⟩ := y
  simp only [GRef15Bid.enc] at h
  obtain ⟨p0, q0⟩ := List.append_inj h (rfl)
  have e0 : a0 = b0 := by have := List.head_eq_of_cons_eq p0; injection this
  have e1 : a1 = b1 := by have := List.head_eq_of_cons_eq q0; injection this
  rw [e0, e1]
instance : Enc GRef15Bid where
  n := 2
  enc := GRef15Bid.enc
  pos := by omega
  len := GRef15Bid.enc_len
  one := GRef15Bid.enc_one
  inj := GRef15Bid.enc_inj
@[go_sem] theorem GRef15Bid.n_eq : Enc.n GRef15Bid = 2 := rfl
@[irreducible] def GRef15Bid.val (x : GRef15Bid) : Value := .agg x.enc.toArray
theorem GRef15Bid.val_eq (x : GRef15Bid) : GRef15Bid.val x = .agg (Enc.enc x).toArray := by unfold GRef15Bid.val; rfl
theorem GRef15Bid.ext_all (x y : GRef15Bid) : x = y ↔ x.client = y.client ∧ x.amount = y.amount := by
  constructor
  · intro h; cases h; simp
  · intro h; cases x; cases y; simp_all
theorem uu222 : Try.prog.underlying 222 = some (.struct (Try.prog.fieldsOf 222)) := by kernel_rfl
theorem st222 : Try.prog.stoodInHeld 222 = false := by kernel_rfl
theorem fl222 : fieldTO Try.prog 222 = [(3, 0), (3, 1)] := by kernel_rfl
theorem nb222 : noBlank Try.prog 222 = true := by kernel_rfl
@[go_sem ↓ high] theorem xl_GRef15Bid (ρ : Operand → Value) (dst : Option Tmp) (x : Operand) (ty : TypeId) (pos : String) (after : Array Edge) (guard : Option (Nat × Bool)) : execOp ρ { dst, op := .load 222 x, type := ty, pos, after, guard } = (do pure (.value (← gLoad 222 (ρ x)))) := ex_load ..
@[go_sem ↓ high] theorem xs_GRef15Bid (ρ : Operand → Value) (dst : Option Tmp) (x y : Operand) (ty : TypeId) (pos : String) (after : Array Edge) (guard : Option (Nat × Bool)) : execOp ρ { dst, op := .store 222 x y, type := ty, pos, after, guard } = (do gStore 222 (ρ x) (ρ y); pure .skip) := ex_store ..
@[go_sem ↓ high] theorem xb_GRef15Bid (ρ : Operand → Value) (dst : Option Tmp) (x : Operand) (ty : TypeId) (pos : String) (after : Array Edge) (guard : Option (Nat × Bool)) : execOp ρ { dst, op := .box 222 x, type := ty, pos, after, guard } = (do pure (.value (← gBox 222 (ρ x)))) := ex_box ..
@[go_sem ↓ high] theorem xa_GRef15Bid (ρ : Operand → Value) (dst : Option Tmp) (ty : TypeId) (pos : String) (after : Array Edge) (guard : Option (Nat × Bool)) : execOp ρ { dst, op := .alloc 222, type := ty, pos, after, guard } = (do pure (.value (← gAlloc 222))) := ex_alloc ..
theorem ag222 : aggT Try.prog 222 = true := by kernel_rfl
theorem sz222 : sizeT Try.prog 222 = 2 := by kernel_rfl
section
variable (w : World)
@[go_sem ↓ high] theorem ld_GRef15Bid (a : Addr) : (gLoad 222 (.pointer (some a))).run Try.prog w = ofOpt ((get? GRef15Bid w a).map GRef15Bid.val) w (noLoad Try.prog 222 a w) := by
  unfold gLoad; exact run_loadAt_opt ag222 sz222 GRef15Bid.val GRef15Bid.val_eq
@[go_sem ↓ high] theorem st_GRef15Bid (a : Addr) (x : GRef15Bid) : (gStore 222 (.pointer (some a)) (GRef15Bid.val x)).run Try.prog w = okU' ((get? GRef15Bid w a).isSome && blkFree w a.block) (World.putCells w a (GRef15Bid.enc x)) (noStore Try.prog 222 (.pointer (some a)) (GRef15Bid.val x) w) := run_gStore_any sz222 GRef15Bid.val GRef15Bid.val_eq w a x
@[go_sem ↓ high] theorem bx_GRef15Bid (x : GRef15Bid) : (gBox 222 (GRef15Bid.val x)).run Try.prog w = .ok (.pointer (some ⟨w.heap.size, 0, none⟩)) (w.alloc (.cells (GRef15Bid.enc x).toArray 222)) := by
  rw [GRef15Bid.val_eq]; exact run_gBox _ w
end
theorem lk222_0 (x : GRef15Bid) : x.enc[0]? = some (.int .i64 x.client) := by
  simp [GRef15Bid.enc, List.getElem?_append]
theorem pt222_0 (w : World) (x : GRef15Bid) : (part 3 x.enc.toArray 0).run Try.prog w = .ok (.int .i64 x.client) w := run_part_one na3 us3 (lk222_0 x)
@[go_sem ↓ high] theorem fd222_0 (w : World) (x : GRef15Bid) : (gField 222 (GRef15Bid.val x) 0).run Try.prog w = .ok (.int .i64 x.client) w := by
  rw [GRef15Bid.val_eq]
  exact run_gField w uu222 (by rw [fl222]; rfl) (pt222_0 w x)
theorem lk222_1 (x : GRef15Bid) : x.enc[1]? = some (.int .i64 x.amount) := by
  simp [GRef15Bid.enc, List.getElem?_append]
theorem pt222_1 (w : World) (x : GRef15Bid) : (part 3 x.enc.toArray 1).run Try.prog w = .ok (.int .i64 x.amount) w := run_part_one na3 us3 (lk222_1 x)
@[go_sem ↓ high] theorem fd222_1 (w : World) (x : GRef15Bid) : (gField 222 (GRef15Bid.val x) 1).run Try.prog w = .ok (.int .i64 x.amount) w := by
  rw [GRef15Bid.val_eq]
  exact run_gField w uu222 (by rw [fl222]; rfl) (pt222_1 w x)
@[go_sem ↓ high] theorem xf_GRef15Bid (ρ : Operand → Value) (dst : Option Tmp) (x : Operand) (i : Nat) (ty : TypeId) (pos : String) (after : Array Edge) (guard : Option (Nat × Bool)) : execOp ρ { dst, op := .field 222 x i, type := ty, pos, after, guard } = (do pure (.value (← gField 222 (ρ x) i))) := ex_field ..
theorem zr222 : zeroT Try.prog 222 = some (.agg (GRef15Bid.enc default).toArray) := by kernel_rfl
@[go_sem ↓ high] theorem al_GRef15Bid (w : World) : (gAlloc 222).run Try.prog w = .ok (.pointer (some ⟨w.heap.size, 0, none⟩)) (w.alloc (.cells (GRef15Bid.enc default).toArray 222)) := run_zero_alloc zr222 w
@[go_sem] theorem pc_GRef15Bid (w : World) (n : Nat) (x z : GRef15Bid) (hn : n = w.heap.size) : World.putCells (w.alloc (.cells (GRef15Bid.enc z).toArray 222)) ⟨n, 0, none⟩ (GRef15Bid.enc x) = w.alloc (.cells (GRef15Bid.enc x).toArray 222) := putCells_top x z hn
theorem GRef15Bid.at_client {w : World} {a : Addr} {x : GRef15Bid} (h : get? GRef15Bid w a = some x) : w.cell? (a.add 0) = some (.int .i64 x.client) := (get?_iff.1 h) _ _ (lk222_0 x)
theorem GRef15Bid.at_amount {w : World} {a : Addr} {x : GRef15Bid} (h : get? GRef15Bid w a = some x) : w.cell? (a.add 1) = some (.int .i64 x.amount) := (get?_iff.1 h) _ _ (lk222_1 x)
@[go_sem] theorem nl222_0 (x : GRef15Bid) : x.enc[0]? = some (.int .i64 x.client) := by
  have h := (GRef15Bid.at_client (get?_new (w := (default : World)) 222 x))
  simp only [Addr.add_lit, Nat.zero_add, Nat.reduceAdd, World.cell?_alloc_new, List.getElem?_toArray] at h
  exact h
@[go_sem] theorem nl222_1 (x : GRef15Bid) : x.enc[1]? = some (.int .i64 x.amount) := by
  have h := (GRef15Bid.at_amount (get?_new (w := (default : World)) 222 x))
  simp only [Addr.add_lit, Nat.zero_add, Nat.reduceAdd, World.cell?_alloc_new, List.getElem?_toArray] at h
  exact h
@[go_sem] theorem nw222 (w : World) (n : Nat) (x : GRef15Bid) (hn : n = w.heap.size) : get? GRef15Bid (w.alloc (.cells (GRef15Bid.enc x).toArray 222)) ⟨n, 0, none⟩ = some x := by
  subst hn; exact get?_new 222 x
theorem pl222 : ((Try.prog.fieldsOf 222).toList.mapM fun f => (Try.prog.info? f.type).map fun i => (f.offset, i.size)) = some [(0, 1), (1, 1)] := by kernel_rfl
theorem fs222_0 (x : GRef15Bid) (v : Int) (rest : List (Nat × Value)) : Instr.fill (fun i => ([(0, 1), (1, 1)] : List (Nat × Nat))[i]?) x.enc.toArray ((0, (.int .i64 v)) :: rest) = Instr.fill (fun i => ([(0, 1), (1, 1)] : List (Nat × Nat))[i]?) ({ x with client := v } : GRef15Bid).enc.toArray rest := by
  have h := fill_seg [(0, 1), (1, 1)] 0 0 1 rfl (([] : List Value)) ([(.int .i64 x.client)]) ([(.int .i64 x.amount)] ++ (([] : List Value))) ([(.int .i64 v)]) (.int .i64 v) rest (rfl) (by simp) (by simp) (by simp)
  have e1 : x.enc = (([] : List Value)) ++ ([(.int .i64 x.client)] ++ ([(.int .i64 x.amount)] ++ (([] : List Value)))) := by simp [GRef15Bid.enc]
  have e2 : ({ x with client := v } : GRef15Bid).enc = (([] : List Value)) ++ ([(.int .i64 v)] ++ ([(.int .i64 x.amount)] ++ (([] : List Value)))) := by simp [GRef15Bid.enc]
  rw [e1, e2]; exact h
theorem fs222_1 (x : GRef15Bid) (v : Int) (rest : List (Nat × Value)) : Instr.fill (fun i => ([(0, 1), (1, 1)] : List (Nat × Nat))[i]?) x.enc.toArray ((1, (.int .i64 v)) :: rest) = Instr.fill (fun i => ([(0, 1), (1, 1)] : List (Nat × Nat))[i]?) ({ x with amount := v } : GRef15Bid).enc.toArray rest := by
  have h := fill_seg [(0, 1), (1, 1)] 1 1 1 rfl (([] : List Value) ++ ([(.int .i64 x.client)])) ([(.int .i64 x.amount)]) (([] : List Value)) ([(.int .i64 v)]) (.int .i64 v) rest (rfl) (by simp) (by simp) (by simp)
  have e1 : x.enc = (([] : List Value) ++ ([(.int .i64 x.client)])) ++ ([(.int .i64 x.amount)] ++ (([] : List Value))) := by simp [GRef15Bid.enc]
  have e2 : ({ x with amount := v } : GRef15Bid).enc = (([] : List Value) ++ ([(.int .i64 x.client)])) ++ ([(.int .i64 v)] ++ (([] : List Value))) := by simp [GRef15Bid.enc]
  rw [e1, e2]; exact h
@[go_sem ↓ high] theorem xd_GRef15Bid (ρ : Operand → Value) (dst : Option Tmp) (ps : Array (Nat × Operand)) (ty : TypeId) (pos : String) (after : Array Edge) (guard : Option (Nat × Bool)) : execOp ρ { dst, op := .build 222 ps, type := ty, pos, after, guard } = (do pure (.value (← gBuild 222 (ps.map fun (i, x) => (i, ρ x))))) := ex_build ..
@[go_sem ↓ high] theorem bd222_0 (w : World) (v0 : Int) (v1 : Int) : (gBuild 222 #[(0, (.int .i64 v0)), (1, (.int .i64 v1))]).run Try.prog w = .ok (GRef15Bid.val ⟨v0, v1⟩) w := by
  rw [GRef15Bid.val_eq]
  refine run_gBuild_of uu222 zr222 pl222 ?_ w
  show Instr.fill _ (GRef15Bid.enc default).toArray [(0, (.int .i64 v0)), (1, (.int .i64 v1))] = _
  rw [fs222_0, fs222_1]; rfl
theorem eq_GRef15Bid (w : World) (d : Nat) (x y : GRef15Bid) : (Op.equalIn (d + 2) 222 (GRef15Bid.val x) (GRef15Bid.val y)).run Try.prog w = .ok (decide (x = y)) w := by
  have q0 : ∀ a b, (Op.equalIn (d + 1) 3 (.int .i64 a) (.int .i64 b)).run Try.prog w = .ok (decide (a = b)) w := fun a b => by rw [run_equalIn_int w (d + 0) 3 .i64 .i64 a b uk3]; congr 1
  have q1 : ∀ a b, (Op.equalIn (d + 1) 3 (.int .i64 a) (.int .i64 b)).run Try.prog w = .ok (decide (a = b)) w := fun a b => by rw [run_equalIn_int w (d + 0) 3 .i64 .i64 a b uk3]; congr 1
  have h := run_equalIn_fields (d + 1) x.enc.toArray y.enc.toArray w uu222 st222 nb222
  rw [fl222] at h
  unfold GRef15Bid.val
  refine h.trans ?_
  clear h
  simp only [eqFs, Sem.run_bind, pt222_0, pt222_1, q0, q1, Result.andThen_ok, Sem.run_ite, Sem.run_pure]
  have he : decide (x = y) = (decide (x.client = y.client) && (decide (x.amount = y.amount))) := by
    rw [Bool.eq_iff_iff]; simp only [Bool.and_eq_true, decide_eq_true_eq]; exact GRef15Bid.ext_all x y
  rw [he]
  generalize decide (x.client = y.client) = c0; generalize decide (x.amount = y.amount) = c1
  cases c0 <;> cases c1 <;> simp
@[go_sem ↓ high] theorem xq_GRef15Bid (ρ : Operand → Value) (dst : Option Tmp) (x y : Operand) (ty yt : TypeId) (pos : String) (after : Array Edge) (guard : Option (Nat × Bool)) : execOp ρ { dst, op := .binOp .eql 222 x y yt, type := ty, pos, after, guard } = (do pure (.value (← gBin .eql 222 x y (ρ x) (ρ y)))) := ex_eql ..
@[go_sem ↓ high] theorem xn_GRef15Bid (ρ : Operand → Value) (dst : Option Tmp) (x y : Operand) (ty yt : TypeId) (pos : String) (after : Array Edge) (guard : Option (Nat × Bool)) : execOp ρ { dst, op := .binOp .neq 222 x y yt, type := ty, pos, after, guard } = (do pure (.value (← gBin .neq 222 x y (ρ x) (ρ y)))) := ex_neq ..
theorem eg_GRef15Bid : Try.prog.eqGuardType Try.prog.depth 222 = false := by kernel_rfl
@[go_sem ↓ high] theorem eql_GRef15Bid (w : World) (ox oy : Operand) (x y : GRef15Bid) : (gBin .eql 222 ox oy (GRef15Bid.val x) (GRef15Bid.val y)).run Try.prog w = .ok (.bool (decide (x = y))) w := by
  have h2 := eq_GRef15Bid w 9998 x y
  rw [GRef15Bid.val_eq, GRef15Bid.val_eq] at h2 ⊢
  have h := run_eqGuard_agg (P := Try.prog) w .eql 222 ox oy (Enc.enc x).toArray (Enc.enc y).toArray eg_GRef15Bid
  unfold gBin
  simp only [Sem.run_bind, h, Result.andThen_ok, run_eql_struct, h2]
@[go_sem ↓ high] theorem neq_GRef15Bid (w : World) (ox oy : Operand) (x y : GRef15Bid) : (gBin .neq 222 ox oy (GRef15Bid.val x) (GRef15Bid.val y)).run Try.prog w = .ok (.bool (!decide (x = y))) w := by
  have h2 := eq_GRef15Bid w 9998 x y
  rw [GRef15Bid.val_eq, GRef15Bid.val_eq] at h2 ⊢
  have h := run_eqGuard_agg (P := Try.prog) w .neq 222 ox oy (Enc.enc x).toArray (Enc.enc y).toArray eg_GRef15Bid
  unfold gBin
  simp only [Sem.run_bind, h, Result.andThen_ok, run_neq_struct, h2]

/-! ### gavel/gavellaw17.Act -/
structure GLaw17Act where
  do_ : Int
  client : Int
  n : Int
  name : ByteArray
  t : Int
  u : Int
  vickrey : Bool
deriving DecidableEq
instance : Inhabited GLaw17Act := ⟨⟨0, 0, 0, ByteArray.empty, 0, 0, false⟩⟩
def GLaw17Act.enc (x : GLaw17Act) : List Value := [(.int .i64 x.do_)] ++ ([(.int .i64 x.client)] ++ ([(.int .i64 x.n)] ++ ([(.string x.name)] ++ ([(.int .u64 x.t)] ++ ([(.int .u64 x.u)] ++ ([(.bool x.vickrey)]))))))
theorem GLaw17Act.enc_len (x : GLaw17Act) : x.enc.length = 7 := by simp [GLaw17Act.enc]
theorem GLaw17Act.enc_one (x : GLaw17Act) : ∀ u ∈ x.enc, u.oneCell' = true := by
  intro u hu
  simp only [GLaw17Act.enc, List.mem_append, List.mem_singleton] at hu
  rcases hu with hu | hu | hu | hu | hu | hu | hu
  · subst hu; rfl
  · subst hu; rfl
  · subst hu; rfl
  · subst hu; rfl
  · subst hu; rfl
  · subst hu; rfl
  · subst hu; rfl
theorem GLaw17Act.enc_inj (x y : GLaw17Act) (h : x.enc = y.enc) : x = y := by
  obtain ⟨a0, a1, a2, a3, a4, a5, a6⟩ := x
  obtain ⟨b0, b1, b2, b3, b4, b5, b6⟩ := y
  simp only [GLaw17Act.enc] at h
  obtain ⟨p0, q0⟩ := List.append_inj h (rfl)
  have e0 : a0 = b0 := by have := List.head_eq_of_cons_eq p0; injection this
  obtain ⟨p1, q1⟩ := List.append_inj q0 (rfl)
  have e1 : a1 = b1 := by have := List.head_eq_of_cons_eq p1; injection this
  obtain ⟨p2, q2⟩ := List.append_inj q1 (rfl)
  have e2 : a2 = b2 := by have := List.head_eq_of_cons_eq p2; injection this
  obtain ⟨p3, q3⟩ := List.append_inj q2 (rfl)
  have e3 : a3 = b3 := by have := List.head_eq_of_cons_eq p3; injection this
  obtain ⟨p4, q4⟩ := List.append_inj q3 (rfl)
  have e4 : a4 = b4 := by have := List.head_eq_of_cons_eq p4; injection this
  obtain ⟨p5, q5⟩ := List.append_inj q4 (rfl)
  have e5 : a5 = b5 := by have := List.head_eq_of_cons_eq p5; injection this
  have e6 : a6 = b6 := by have := List.head_eq_of_cons_eq q5; injection this
  rw [e0, e1, e2, e3, e4, e5, e6]
instance : Enc GLaw17Act where
  n := 7
  enc := GLaw17Act.enc
  pos := by omega
  len := GLaw17Act.enc_len
  one := GLaw17Act.enc_one
  inj := GLaw17Act.enc_inj
@[go_sem] theorem GLaw17Act.n_eq : Enc.n GLaw17Act = 7 := rfl
@[irreducible] def GLaw17Act.val (x : GLaw17Act) : Value := .agg x.enc.toArray
theorem GLaw17Act.val_eq (x : GLaw17Act) : GLaw17Act.val x = .agg (Enc.enc x).toArray := by unfold GLaw17Act.val; rfl
theorem GLaw17Act.ext_all (x y : GLaw17Act) : x = y ↔ x.do_ = y.do_ ∧ x.client = y.client ∧ x.n = y.n ∧ x.name = y.name ∧ x.t = y.t ∧ x.u = y.u ∧ x.vickrey = y.vickrey := by
  constructor
  · intro h; cases h; simp
  · intro h; cases x; cases y; simp_all
theorem uu185 : Try.prog.underlying 185 = some (.struct (Try.prog.fieldsOf 185)) := by kernel_rfl
theorem st185 : Try.prog.stoodInHeld 185 = false := by kernel_rfl
theorem fl185 : fieldTO Try.prog 185 = [(3, 0), (3, 1), (3, 2), (9, 3), (28, 4), (28, 5), (4, 6)] := by kernel_rfl
theorem nb185 : noBlank Try.prog 185 = true := by kernel_rfl
@[go_sem ↓ high] theorem xl_GLaw17Act (ρ : Operand → Value) (dst : Option Tmp) (x : Operand) (ty : TypeId) (pos : String) (after : Array Edge) (guard : Option (Nat × Bool)) : execOp ρ { dst, op := .load 185 x, type := ty, pos, after, guard } = (do pure (.value (← gLoad 185 (ρ x)))) := ex_load ..
@[go_sem ↓ high] theorem xs_GLaw17Act (ρ : Operand → Value) (dst : Option Tmp) (x y : Operand) (ty : TypeId) (pos : String) (after : Array Edge) (guard : Option (Nat × Bool)) : execOp ρ { dst, op := .store 185 x y, type := ty, pos, after, guard } = (do gStore 185 (ρ x) (ρ y); pure .skip) := ex_store ..
@[go_sem ↓ high] theorem xb_GLaw17Act (ρ : Operand → Value) (dst : Option Tmp) (x : Operand) (ty : TypeId) (pos : String) (after : Array Edge) (guard : Option (Nat × Bool)) : execOp ρ { dst, op := .box 185 x, type := ty, pos, after, guard } = (do pure (.value (← gBox 185 (ρ x)))) := ex_box ..
@[go_sem ↓ high] theorem xa_GLaw17Act (ρ : Operand → Value) (dst : Option Tmp) (ty : TypeId) (pos : String) (after : Array Edge) (guard : Option (Nat × Bool)) : execOp ρ { dst, op := .alloc 185, type := ty, pos, after, guard } = (do pure (.value (← gAlloc 185))) := ex_alloc ..
theorem ag185 : aggT Try.prog 185 = true := by kernel_rfl
theorem sz185 : sizeT Try.prog 185 = 7 := by kernel_rfl
section
variable (w : World)
@[go_sem ↓ high] theorem ld_GLaw17Act (a : Addr) : (gLoad 185 (.pointer (some a))).run Try.prog w = ofOpt ((get? GLaw17Act w a).map GLaw17Act.val) w (noLoad Try.prog 185 a w) := by
  unfold gLoad; exact run_loadAt_opt ag185 sz185 GLaw17Act.val GLaw17Act.val_eq
@[go_sem ↓ high] theorem st_GLaw17Act (a : Addr) (x : GLaw17Act) : (gStore 185 (.pointer (some a)) (GLaw17Act.val x)).run Try.prog w = okU' ((get? GLaw17Act w a).isSome && blkFree w a.block) (World.putCells w a (GLaw17Act.enc x)) (noStore Try.prog 185 (.pointer (some a)) (GLaw17Act.val x) w) := run_gStore_any sz185 GLaw17Act.val GLaw17Act.val_eq w a x
@[go_sem ↓ high] theorem bx_GLaw17Act (x : GLaw17Act) : (gBox 185 (GLaw17Act.val x)).run Try.prog w = .ok (.pointer (some ⟨w.heap.size, 0, none⟩)) (w.alloc (.cells (GLaw17Act.enc x).toArray 185)) := by
  rw [GLaw17Act.val_eq]; exact run_gBox _ w
end
theorem lk185_0 (x : GLaw17Act) : x.enc[0]? = some (.int .i64 x.do_) := by
  simp [GLaw17Act.enc, List.getElem?_append]
theorem pt185_0 (w : World) (x : GLaw17Act) : (part 3 x.enc.toArray 0).run Try.prog w = .ok (.int .i64 x.do_) w := run_part_one na3 us3 (lk185_0 x)
@[go_sem ↓ high] theorem fd185_0 (w : World) (x : GLaw17Act) : (gField 185 (GLaw17Act.val x) 0).run Try.prog w = .ok (.int .i64 x.do_) w := by
  rw [GLaw17Act.val_eq]
  exact run_gField w uu185 (by rw [fl185]; rfl) (pt185_0 w x)
theorem lk185_1 (x : GLaw17Act) : x.enc[1]? = some (.int .i64 x.client) := by
  simp [GLaw17Act.enc, List.getElem?_append]
theorem pt185_1 (w : World) (x : GLaw17Act) : (part 3 x.enc.toArray 1).run Try.prog w = .ok (.int .i64 x.client) w := run_part_one na3 us3 (lk185_1 x)
@[go_sem ↓ high] theorem fd185_1 (w : World) (x : GLaw17Act) : (gField 185 (GLaw17Act.val x) 1).run Try.prog w = .ok (.int .i64 x.client) w := by
  rw [GLaw17Act.val_eq]
  exact run_gField w uu185 (by rw [fl185]; rfl) (pt185_1 w x)
theorem lk185_2 (x : GLaw17Act) : x.enc[2]? = some (.int .i64 x.n) := by
  simp [GLaw17Act.enc, List.getElem?_append]
theorem pt185_2 (w : World) (x : GLaw17Act) : (part 3 x.enc.toArray 2).run Try.prog w = .ok (.int .i64 x.n) w := run_part_one na3 us3 (lk185_2 x)
@[go_sem ↓ high] theorem fd185_2 (w : World) (x : GLaw17Act) : (gField 185 (GLaw17Act.val x) 2).run Try.prog w = .ok (.int .i64 x.n) w := by
  rw [GLaw17Act.val_eq]
  exact run_gField w uu185 (by rw [fl185]; rfl) (pt185_2 w x)
theorem lk185_3 (x : GLaw17Act) : x.enc[3]? = some (.string x.name) := by
  simp [GLaw17Act.enc, List.getElem?_append]
theorem pt185_3 (w : World) (x : GLaw17Act) : (part 9 x.enc.toArray 3).run Try.prog w = .ok (.string x.name) w := run_part_one na9 us9 (lk185_3 x)
@[go_sem ↓ high] theorem fd185_3 (w : World) (x : GLaw17Act) : (gField 185 (GLaw17Act.val x) 3).run Try.prog w = .ok (.string x.name) w := by
  rw [GLaw17Act.val_eq]
  exact run_gField w uu185 (by rw [fl185]; rfl) (pt185_3 w x)
theorem lk185_4 (x : GLaw17Act) : x.enc[4]? = some (.int .u64 x.t) := by
  simp [GLaw17Act.enc, List.getElem?_append]
theorem pt185_4 (w : World) (x : GLaw17Act) : (part 28 x.enc.toArray 4).run Try.prog w = .ok (.int .u64 x.t) w := run_part_one na28 us28 (lk185_4 x)
@[go_sem ↓ high] theorem fd185_4 (w : World) (x : GLaw17Act) : (gField 185 (GLaw17Act.val x) 4).run Try.prog w = .ok (.int .u64 x.t) w := by
  rw [GLaw17Act.val_eq]
  exact run_gField w uu185 (by rw [fl185]; rfl) (pt185_4 w x)
theorem lk185_5 (x : GLaw17Act) : x.enc[5]? = some (.int .u64 x.u) := by
  simp [GLaw17Act.enc, List.getElem?_append]
theorem pt185_5 (w : World) (x : GLaw17Act) : (part 28 x.enc.toArray 5).run Try.prog w = .ok (.int .u64 x.u) w := run_part_one na28 us28 (lk185_5 x)
@[go_sem ↓ high] theorem fd185_5 (w : World) (x : GLaw17Act) : (gField 185 (GLaw17Act.val x) 5).run Try.prog w = .ok (.int .u64 x.u) w := by
  rw [GLaw17Act.val_eq]
  exact run_gField w uu185 (by rw [fl185]; rfl) (pt185_5 w x)
theorem lk185_6 (x : GLaw17Act) : x.enc[6]? = some (.bool x.vickrey) := by
  simp [GLaw17Act.enc, List.getElem?_append]
theorem pt185_6 (w : World) (x : GLaw17Act) : (part 4 x.enc.toArray 6).run Try.prog w = .ok (.bool x.vickrey) w := run_part_one na4 us4 (lk185_6 x)
@[go_sem ↓ high] theorem fd185_6 (w : World) (x : GLaw17Act) : (gField 185 (GLaw17Act.val x) 6).run Try.prog w = .ok (.bool x.vickrey) w := by
  rw [GLaw17Act.val_eq]
  exact run_gField w uu185 (by rw [fl185]; rfl) (pt185_6 w x)
@[go_sem ↓ high] theorem xf_GLaw17Act (ρ : Operand → Value) (dst : Option Tmp) (x : Operand) (i : Nat) (ty : TypeId) (pos : String) (after : Array Edge) (guard : Option (Nat × Bool)) : execOp ρ { dst, op := .field 185 x i, type := ty, pos, after, guard } = (do pure (.value (← gField 185 (ρ x) i))) := ex_field ..
theorem zr185 : zeroT Try.prog 185 = some (.agg (GLaw17Act.enc default).toArray) := by kernel_rfl
@[go_sem ↓ high] theorem al_GLaw17Act (w : World) : (gAlloc 185).run Try.prog w = .ok (.pointer (some ⟨w.heap.size, 0, none⟩)) (w.alloc (.cells (GLaw17Act.enc default).toArray 185)) := run_zero_alloc zr185 w
@[go_sem] theorem pc_GLaw17Act (w : World) (n : Nat) (x z : GLaw17Act) (hn : n = w.heap.size) : World.putCells (w.alloc (.cells (GLaw17Act.enc z).toArray 185)) ⟨n, 0, none⟩ (GLaw17Act.enc x) = w.alloc (.cells (GLaw17Act.enc x).toArray 185) := putCells_top x z hn
theorem GLaw17Act.at_do_ {w : World} {a : Addr} {x : GLaw17Act} (h : get? GLaw17Act w a = some x) : w.cell? (a.add 0) = some (.int .i64 x.do_) := (get?_iff.1 h) _ _ (lk185_0 x)
theorem GLaw17Act.at_client {w : World} {a : Addr} {x : GLaw17Act} (h : get? GLaw17Act w a = some x) : w.cell? (a.add 1) = some (.int .i64 x.client) := (get?_iff.1 h) _ _ (lk185_1 x)
theorem GLaw17Act.at_n {w : World} {a : Addr} {x : GLaw17Act} (h : get? GLaw17Act w a = some x) : w.cell? (a.add 2) = some (.int .i64 x.n) := (get?_iff.1 h) _ _ (lk185_2 x)
theorem GLaw17Act.at_name {w : World} {a : Addr} {x : GLaw17Act} (h : get? GLaw17Act w a = some x) : w.cell? (a.add 3) = some (.string x.name) := (get?_iff.1 h) _ _ (lk185_3 x)
theorem GLaw17Act.at_t {w : World} {a : Addr} {x : GLaw17Act} (h : get? GLaw17Act w a = some x) : w.cell? (a.add 4) = some (.int .u64 x.t) := (get?_iff.1 h) _ _ (lk185_4 x)
theorem GLaw17Act.at_u {w : World} {a : Addr} {x : GLaw17Act} (h : get? GLaw17Act w a = some x) : w.cell? (a.add 5) = some (.int .u64 x.u) := (get?_iff.1 h) _ _ (lk185_5 x)
theorem GLaw17Act.at_vickrey {w : World} {a : Addr} {x : GLaw17Act} (h : get? GLaw17Act w a = some x) : w.cell? (a.add 6) = some (.bool x.vickrey) := (get?_iff.1 h) _ _ (lk185_6 x)
@[go_sem] theorem nl185_0 (x : GLaw17Act) : x.enc[0]? = some (.int .i64 x.do_) := by
  have h := (GLaw17Act.at_do_ (get?_new (w := (default : World)) 185 x))
  simp only [Addr.add_lit, Nat.zero_add, Nat.reduceAdd, World.cell?_alloc_new, List.getElem?_toArray] at h
  exact h
@[go_sem] theorem nl185_1 (x : GLaw17Act) : x.enc[1]? = some (.int .i64 x.client) := by
  have h := (GLaw17Act.at_client (get?_new (w := (default : World)) 185 x))
  simp only [Addr.add_lit, Nat.zero_add, Nat.reduceAdd, World.cell?_alloc_new, List.getElem?_toArray] at h
  exact h
@[go_sem] theorem nl185_2 (x : GLaw17Act) : x.enc[2]? = some (.int .i64 x.n) := by
  have h := (GLaw17Act.at_n (get?_new (w := (default : World)) 185 x))
  simp only [Addr.add_lit, Nat.zero_add, Nat.reduceAdd, World.cell?_alloc_new, List.getElem?_toArray] at h
  exact h
@[go_sem] theorem nl185_3 (x : GLaw17Act) : x.enc[3]? = some (.string x.name) := by
  have h := (GLaw17Act.at_name (get?_new (w := (default : World)) 185 x))
  simp only [Addr.add_lit, Nat.zero_add, Nat.reduceAdd, World.cell?_alloc_new, List.getElem?_toArray] at h
  exact h
@[go_sem] theorem nl185_4 (x : GLaw17Act) : x.enc[4]? = some (.int .u64 x.t) := by
  have h := (GLaw17Act.at_t (get?_new (w := (default : World)) 185 x))
  simp only [Addr.add_lit, Nat.zero_add, Nat.reduceAdd, World.cell?_alloc_new, List.getElem?_toArray] at h
  exact h
@[go_sem] theorem nl185_5 (x : GLaw17Act) : x.enc[5]? = some (.int .u64 x.u) := by
  have h := (GLaw17Act.at_u (get?_new (w := (default : World)) 185 x))
  simp only [Addr.add_lit, Nat.zero_add, Nat.reduceAdd, World.cell?_alloc_new, List.getElem?_toArray] at h
  exact h
@[go_sem] theorem nl185_6 (x : GLaw17Act) : x.enc[6]? = some (.bool x.vickrey) := by
  have h := (GLaw17Act.at_vickrey (get?_new (w := (default : World)) 185 x))
  simp only [Addr.add_lit, Nat.zero_add, Nat.reduceAdd, World.cell?_alloc_new, List.getElem?_toArray] at h
  exact h
@[go_sem] theorem nw185 (w : World) (n : Nat) (x : GLaw17Act) (hn : n = w.heap.size) : get? GLaw17Act (w.alloc (.cells (GLaw17Act.enc x).toArray 185)) ⟨n, 0, none⟩ = some x := by
  subst hn; exact get?_new 185 x
theorem eq_GLaw17Act (w : World) (d : Nat) (x y : GLaw17Act) : (Op.equalIn (d + 2) 185 (GLaw17Act.val x) (GLaw17Act.val y)).run Try.prog w = .ok (decide (x = y)) w := by
  have q0 : ∀ a b, (Op.equalIn (d + 1) 3 (.int .i64 a) (.int .i64 b)).run Try.prog w = .ok (decide (a = b)) w := fun a b => by rw [run_equalIn_int w (d + 0) 3 .i64 .i64 a b uk3]; congr 1
  have q1 : ∀ a b, (Op.equalIn (d + 1) 3 (.int .i64 a) (.int .i64 b)).run Try.prog w = .ok (decide (a = b)) w := fun a b => by rw [run_equalIn_int w (d + 0) 3 .i64 .i64 a b uk3]; congr 1
  have q2 : ∀ a b, (Op.equalIn (d + 1) 3 (.int .i64 a) (.int .i64 b)).run Try.prog w = .ok (decide (a = b)) w := fun a b => by rw [run_equalIn_int w (d + 0) 3 .i64 .i64 a b uk3]; congr 1
  have q3 : ∀ a b, (Op.equalIn (d + 1) 9 (.string a) (.string b)).run Try.prog w = .ok (decide (a = b)) w := fun a b => by rw [run_equalIn_string w (d + 0) 9 a b uk9, bytes_beq]
  have q4 : ∀ a b, (Op.equalIn (d + 1) 28 (.int .u64 a) (.int .u64 b)).run Try.prog w = .ok (decide (a = b)) w := fun a b => by rw [run_equalIn_int w (d + 0) 28 .u64 .u64 a b uk28]; congr 1
  have q5 : ∀ a b, (Op.equalIn (d + 1) 28 (.int .u64 a) (.int .u64 b)).run Try.prog w = .ok (decide (a = b)) w := fun a b => by rw [run_equalIn_int w (d + 0) 28 .u64 .u64 a b uk28]; congr 1
  have q6 : ∀ a b, (Op.equalIn (d + 1) 4 (.bool a) (.bool b)).run Try.prog w = .ok (decide (a = b)) w := fun a b => by rw [run_equalIn_bool' w (d + 0) 4 a b uk4]; cases a <;> cases b <;> rfl
  have h := run_equalIn_fields (d + 1) x.enc.toArray y.enc.toArray w uu185 st185 nb185
  rw [fl185] at h
  unfold GLaw17Act.val
  refine h.trans ?_
  clear h
  simp only [eqFs, Sem.run_bind, pt185_0, pt185_1, pt185_2, pt185_3, pt185_4, pt185_5, pt185_6, q0, q1, q2, q3, q4, q5, q6, Result.andThen_ok, Sem.run_ite, Sem.run_pure]
  have he : decide (x = y) = (decide (x.do_ = y.do_) && (decide (x.client = y.client) && (decide (x.n = y.n) && (decide (x.name = y.name) && (decide (x.t = y.t) && (decide (x.u = y.u) && (decide (x.vickrey = y.vickrey)))))))) := by
    rw [Bool.eq_iff_iff]; simp only [Bool.and_eq_true, decide_eq_true_eq]; exact GLaw17Act.ext_all x y
  rw [he]
  generalize decide (x.do_ = y.do_) = c0; generalize decide (x.client = y.client) = c1; generalize decide (x.n = y.n) = c2; generalize decide (x.name = y.name) = c3; generalize decide (x.t = y.t) = c4; generalize decide (x.u = y.u) = c5; generalize decide (x.vickrey = y.vickrey) = c6
  cases c0 <;> cases c1 <;> cases c2 <;> cases c3 <;> cases c4 <;> cases c5 <;> cases c6 <;> simp
@[go_sem ↓ high] theorem xq_GLaw17Act (ρ : Operand → Value) (dst : Option Tmp) (x y : Operand) (ty yt : TypeId) (pos : String) (after : Array Edge) (guard : Option (Nat × Bool)) : execOp ρ { dst, op := .binOp .eql 185 x y yt, type := ty, pos, after, guard } = (do pure (.value (← gBin .eql 185 x y (ρ x) (ρ y)))) := ex_eql ..
@[go_sem ↓ high] theorem xn_GLaw17Act (ρ : Operand → Value) (dst : Option Tmp) (x y : Operand) (ty yt : TypeId) (pos : String) (after : Array Edge) (guard : Option (Nat × Bool)) : execOp ρ { dst, op := .binOp .neq 185 x y yt, type := ty, pos, after, guard } = (do pure (.value (← gBin .neq 185 x y (ρ x) (ρ y)))) := ex_neq ..
theorem eg_GLaw17Act : Try.prog.eqGuardType Try.prog.depth 185 = false := by kernel_rfl
@[go_sem ↓ high] theorem eql_GLaw17Act (w : World) (ox oy : Operand) (x y : GLaw17Act) : (gBin .eql 185 ox oy (GLaw17Act.val x) (GLaw17Act.val y)).run Try.prog w = .ok (.bool (decide (x = y))) w := by
  have h2 := eq_GLaw17Act w 9998 x y
  rw [GLaw17Act.val_eq, GLaw17Act.val_eq] at h2 ⊢
  have h := run_eqGuard_agg (P := Try.prog) w .eql 185 ox oy (Enc.enc x).toArray (Enc.enc y).toArray eg_GLaw17Act
  unfold gBin
  simp only [Sem.run_bind, h, Result.andThen_ok, run_eql_struct, h2]
@[go_sem ↓ high] theorem neq_GLaw17Act (w : World) (ox oy : Operand) (x y : GLaw17Act) : (gBin .neq 185 ox oy (GLaw17Act.val x) (GLaw17Act.val y)).run Try.prog w = .ok (.bool (!decide (x = y))) w := by
  have h2 := eq_GLaw17Act w 9998 x y
  rw [GLaw17Act.val_eq, GLaw17Act.val_eq] at h2 ⊢
  have h := run_eqGuard_agg (P := Try.prog) w .neq 185 ox oy (Enc.enc x).toArray (Enc.enc y).toArray eg_GLaw17Act
  unfold gBin
  simp only [Sem.run_bind, h, Result.andThen_ok, run_neq_struct, h2]
/-! ### []gavelref15.sale -/
theorem ei133 : ElemI Try.prog 133 219 GRef15Sale 104 := ⟨by kernel_rfl, by kernel_rfl⟩
@[go_sem ↓ high] theorem xg_133 (ρ : Operand → Value) (dst : Option Tmp) (ps : Array (Nat × Operand)) (ty : TypeId) (pos : String) (after : Array Edge) (guard : Option (Nat × Bool)) : execOp ρ { dst, op := .buildSlice 133 1 ps, type := ty, pos, after, guard } = (do pure (.value (← gBuildSlice 133 1 (ps.map fun (i, x) => (i, ρ x))))) := ex_buildSlice ..
@[go_sem ↓ high] theorem bs_133 (w : World) (x : GRef15Sale) : (gBuildSlice 133 1 #[(0, GRef15Sale.val x)]).run Try.prog w = .ok (.slice (some ⟨w.heap.size, 0, none⟩) 1 1) (w.alloc (.cells (GRef15Sale.enc x).toArray 219)) := by
  rw [GRef15Sale.val_eq]; exact run_buildSlice_one ei133 (by decide) x w
/-! ### []gavelref15.bid -/
theorem ei217 : ElemI Try.prog 217 222 GRef15Bid 16 := ⟨by kernel_rfl, by kernel_rfl⟩
@[go_sem ↓ high] theorem xg_217 (ρ : Operand → Value) (dst : Option Tmp) (ps : Array (Nat × Operand)) (ty : TypeId) (pos : String) (after : Array Edge) (guard : Option (Nat × Bool)) : execOp ρ { dst, op := .buildSlice 217 1 ps, type := ty, pos, after, guard } = (do pure (.value (← gBuildSlice 217 1 (ps.map fun (i, x) => (i, ρ x))))) := ex_buildSlice ..
@[go_sem ↓ high] theorem bs_217 (w : World) (x : GRef15Bid) : (gBuildSlice 217 1 #[(0, GRef15Bid.val x)]).run Try.prog w = .ok (.slice (some ⟨w.heap.size, 0, none⟩) 1 1) (w.alloc (.cells (GRef15Bid.enc x).toArray 222)) := by
  rw [GRef15Bid.val_eq]; exact run_buildSlice_one ei217 (by decide) x w
/-! ### []gavelref15.Result -/
theorem ei188 : ElemI Try.prog 188 190 GRef15Result 32 := ⟨by kernel_rfl, by kernel_rfl⟩
@[go_sem ↓ high] theorem xg_188 (ρ : Operand → Value) (dst : Option Tmp) (ps : Array (Nat × Operand)) (ty : TypeId) (pos : String) (after : Array Edge) (guard : Option (Nat × Bool)) : execOp ρ { dst, op := .buildSlice 188 1 ps, type := ty, pos, after, guard } = (do pure (.value (← gBuildSlice 188 1 (ps.map fun (i, x) => (i, ρ x))))) := ex_buildSlice ..
@[go_sem ↓ high] theorem bs_188 (w : World) (x : GRef15Result) : (gBuildSlice 188 1 #[(0, GRef15Result.val x)]).run Try.prog w = .ok (.slice (some ⟨w.heap.size, 0, none⟩) 1 1) (w.alloc (.cells (GRef15Result.enc x).toArray 190)) := by
  rw [GRef15Result.val_eq]; exact run_buildSlice_one ei188 (by decide) x w
/-! ### []string -/
theorem ei127 : ElemI Try.prog 127 9 StrV 16 := ⟨by kernel_rfl, by kernel_rfl⟩
/-! ### []gavellaw17.Act -/
theorem ei131 : ElemI Try.prog 131 185 GLaw17Act 64 := ⟨by kernel_rfl, by kernel_rfl⟩
@[go_sem ↓ high] theorem xg_131 (ρ : Operand → Value) (dst : Option Tmp) (ps : Array (Nat × Operand)) (ty : TypeId) (pos : String) (after : Array Edge) (guard : Option (Nat × Bool)) : execOp ρ { dst, op := .buildSlice 131 1 ps, type := ty, pos, after, guard } = (do pure (.value (← gBuildSlice 131 1 (ps.map fun (i, x) => (i, ρ x))))) := ex_buildSlice ..
@[go_sem ↓ high] theorem bs_131 (w : World) (x : GLaw17Act) : (gBuildSlice 131 1 #[(0, GLaw17Act.val x)]).run Try.prog w = .ok (.slice (some ⟨w.heap.size, 0, none⟩) 1 1) (w.alloc (.cells (GLaw17Act.enc x).toArray 185)) := by
  rw [GLaw17Act.val_eq]; exact run_buildSlice_one ei131 (by decide) x w

end Go.Proofs.Yteockodnfempfaa
/- Regions that leave their order open, where a call may come ahead of what looks behind it. Conditions: those named in each theorem. -/
namespace Go.Gv
open Go Go.RowKit

/-! G w w': what what looks may do; G2 w w': what any operation of the region may do: what looks sees the same behind it. -/
section
variable {P : Program} {ops : Array Oper} {md : Region.Mode} {Q : Exit → Act → World → Prop} {G G2 : World → World → Prop} {T U : List Nat}
def YieldsH (P : Program) (ops : Array Oper) (G G2 : World → World → Prop) (w : World) (o : Oper) (v : Value) (a : Act) : Prop :=
  (Region.wanted o (yielded ops a.tmps) = true ∧ ∀ w', G2 w w' → lookUponG P G w' v ((execOp a.eval o).run P w')) ∨ (Region.wanted o (yielded ops a.tmps) = false ∧ v = undef)
theorem YieldsH.of_same {w : World} {o : Oper} {v : Value} {a a' : Act} (hy : YieldsH P ops G G2 w o v a) (he : execOp a'.eval o = execOp a.eval o)
    (hw : Region.wanted o (yielded ops a'.tmps) = Region.wanted o (yielded ops a.tmps)) : YieldsH P ops G G2 w o v a' := by
  unfold YieldsH at *
  rw [he, hw]
  exact hy
theorem YieldsH.ext (ht : ∀ a b c, G2 a b → G2 b c → G2 a c) {w w1 : World} {o : Oper} {v : Value} {a : Act} (hy : YieldsH P ops G G2 w o v a) (h : G2 w w1) : YieldsH P ops G G2 w1 o v a := by
  rcases hy with ⟨h1, h2⟩ | h
  · exact .inl ⟨h1, fun w' hw' => h2 w' (ht _ _ _ h hw')⟩
  · exact .inr h
theorem YieldsH.wpOp (hrf : ∀ a, G a a) {i : Nat} {o : Oper} {v : Value} {a : Act} {w w' : World} {K : Act → World → Prop} (hi : ops[i]? = some o) (hy : YieldsH P ops G G2 w o v a) (hw' : G2 w w') (h : ∀ w'', G w' w'' → K (a.put o.dst v) w'') : wpOp P ops Q i K a w' := by
  unfold Go.wpOp
  simp only [hi]
  rcases hy with ⟨hw, hv⟩ | ⟨hw, rfl⟩
  · simp only [hw, if_true]
    refine .inl ?_
    have hz := hv w' hw'
    unfold Oper.wp
    generalize (execOp a.eval o).run P w' = r at hz
    cases r with
    | ok n w1 =>
      cases n <;> simp only [lookUponG] at hz <;> simp only [Oper.upon]
      case value u => obtain ⟨rfl, rfl⟩ := hz; exact h _ (hrf _)
      case skip => obtain ⟨rfl, rfl⟩ := hz; exact h _ (hrf _)
      case enter f args =>
        obtain ⟨rfl, hc⟩ := hz
        refine hc.mono fun e w'' ⟨he, hm⟩ => ?_
        subst he; exact h _ hm
    | halt x w1 => simp only [lookUponG] at hz
  · simp only [hw, Bool.false_eq_true, if_false]; exact h _ (hrf _)
theorem wpOp_putH {j : Nat} {oi oj : Oper} {v : Value} {w w0 : World} (hj : ops[j]? = some oj) (hap : oi.apart ops oj = true)
    (hsi : ∀ cs b, oi.op ≠ .select cs b) (hsj : ∀ cs b, oj.op ≠ .select cs b)
    (hQ : ∀ c a w, Q (.panic c) (a.put oi.dst v) w → Q (.panic c) a w) {K : Act → World → Prop} {a : Act}
    (hy : YieldsH P ops G G2 w0 oi v a) (h : wpOp P ops Q j K (a.put oi.dst v) w) :
    wpOp P ops Q j (fun a' w' => YieldsH P ops G G2 w0 oi v a' ∧ K (a'.put oi.dst v) w') a w := by
  obtain ⟨h1, h2, h3⟩ := Oper.apart_spec hap
  have keep : ∀ (a : Act), YieldsH P ops G G2 w0 oi v a → ∀ u, YieldsH P ops G G2 w0 oi v (a.put oj.dst u) := fun a hy u =>
    hy.of_same (execOp_put oi hsi a oj.dst u h3) (wanted_put oi a oj.dst u h3)
  have keepD : ∀ d, YieldsH P ops G G2 w0 oi v { a with defers := d :: a.defers } := fun d => hy.of_same rfl rfl
  unfold Go.wpOp at *
  simp only [hj] at *
  rw [wanted_put oj a oi.dst v h1] at h
  split
  · rename_i hw
    simp only [hw, if_true] at h
    rcases h with h | ⟨hasks, hlets⟩
    case inr => exact .inr ⟨by unfold Oper.asks at *; rw [execOp_put oj hsj a oi.dst v h1] at hasks; exact hasks, hlets⟩
    refine .inl ?_
    unfold Oper.wp at *
    rw [execOp_put oj hsj a oi.dst v h1] at h
    generalize (execOp a.eval oj).run P w = r at *
    cases r with
    | ok n w' =>
      cases n <;> simp only [Oper.upon] at h ⊢
      case value u => exact ⟨keep a hy u, by rw [← Act.put_comm a v u h2]; exact h⟩
      case skip => exact ⟨keep a hy _, by rw [← Act.put_comm a v undef h2]; exact h⟩
      case defer d =>
        refine ⟨keep _ (keepD d) _, ?_⟩
        rw [← Act.put_comm _ v undef h2, ← Act.put_defers]
        exact h
      case enter f args =>
        refine Calls.mono h fun e w'' he => ?_
        cases e with
        | returned u => exact ⟨keep a hy u, by rw [← Act.put_comm a v u h2]; exact he⟩
        | panicked c => exact hQ _ _ _ he
        | outgrown => exact he
      case row row args => exact Rows.mono h fun u w'' he => ⟨keep a hy u, by rw [← Act.put_comm a v u h2]; exact he⟩
    | halt x w' =>
      cases x <;> simp only [Oper.upon] at h ⊢
      case panic u => exact hQ _ _ _ h
  · rename_i hw
    simp only [hw] at h
    exact ⟨keep a hy _, by rw [← Act.put_comm a v undef h2]; exact h⟩

/-- Whatever order is picked from here on. -/
def wpH (P : Program) (md : Region.Mode) (ops : Array Oper) (Q : Exit → Act → World → Prop) (G G2 : World → World → Prop) (T U : List Nat) : Nat → Array Bool → Act → World → Prop
  | 0, listed, a, w => Region.ready md ops listed = [] ∧ ∀ w', G w w' → Q .normal a w'
  | fuel + 1, listed, a, w =>
    (Region.ready md ops listed = [] → ∀ w', G w w' → Q .normal a w') ∧
    ∀ i ∈ Region.ready md ops listed, ∀ w', G w w' → wpOp P ops Q i (fun a' w'' => (i ∉ T → G w' w'') ∧ (i ∉ U → G2 w' w'') ∧ wpH P md ops Q G G2 T U fuel (listed.setIfInBounds i true) a' w'') a w'
theorem wpH_ext (ht : ∀ a b c, G a b → G b c → G a c) {fuel : Nat} {listed : Array Bool} {a : Act} {w w1 : World} (h : wpH P md ops Q G G2 T U fuel listed a w) (h1 : G w w1) : wpH P md ops Q G G2 T U fuel listed a w1 := by
  cases fuel with
  | zero => exact ⟨h.1, fun w' hw' => h.2 _ (ht _ _ _ h1 hw')⟩
  | succ f => exact ⟨fun h0 w' hw' => h.1 h0 _ (ht _ _ _ h1 hw'), fun i hi w' hw' => h.2 i hi _ (ht _ _ _ h1 hw')⟩
theorem wpAny_of_H (hrf : ∀ a, G a a) : ∀ (fuel : Nat) (listed : Array Bool) (a : Act) (w : World), wpH P md ops Q G G2 T U fuel listed a w → wpAny P md ops Q fuel listed a w
  | 0, _, _, _, h => ⟨h.1, h.2 _ (hrf _)⟩
  | fuel + 1, _, _, _, h => ⟨fun h0 => h.1 h0 _ (hrf _), fun i hi => wpOp_mono (fun a' w' h' => wpAny_of_H hrf fuel _ a' w' h'.2.2) (h.2 i hi _ (hrf _))⟩

theorem wpH_first {i : Nat} {oi : Oper} {v : Value} (hrf : ∀ a, G a a) (ht : ∀ a b c, G a b → G b c → G a c) (ht2 : ∀ a b c, G2 a b → G2 b c → G2 a c) (hsub : ∀ a b, G a b → G2 a b) (hi : ops[i]? = some oi) (hsel : ∀ (j : Nat) (o : Oper) cs b, ops[j]? = some o → o.op ≠ .select cs b)
    (hQ : ∀ c (a a' : Act) w, a.defers = a'.defers → Q (.panic c) a w → Q (.panic c) a' w) (n : Nat) (hU : ∀ t ∈ U, i ∈ waitsFor md ops n t) :
    ∀ (fuel : Nat) (listed : Array Bool) (a : Act) (w : World), downC md ops listed →
      (∀ j oj, ops[j]? = some oj → j ≠ i → listed.getD j true = false → (∀ e ∈ oj.after, Region.binds md e = true → e.on ≠ i) → oi.apart ops oj = true) →
      i ∈ Region.ready md ops listed → YieldsH P ops G G2 w oi v a →
      wpH P md ops Q G G2 T U fuel (listed.setIfInBounds i true) (a.put oi.dst v) w → wpH P md ops Q G G2 T U (fuel + 1) listed a w := by
  intro fuel
  induction fuel with
  | zero =>
    intro listed a w hdc _ hr hy H
    refine ⟨fun h => (by rw [h] at hr; cases hr), fun j hj w' hw' => ?_⟩
    by_cases hji : j = i
    · subst hji
      exact hy.wpOp hrf hi (hsub _ _ hw') fun w'' hw'' => ⟨fun _ => hw'', fun _ => hsub _ _ hw'', wpH_ext ht H (ht _ _ _ hw' hw'')⟩
    · have := ready_mono hj hji
      rw [H.1] at this
      cases this
  | succ fuel ih =>
    intro listed a w hdc hfree hr hy H
    refine ⟨fun h => (by rw [h] at hr; cases hr), fun j hj w' hw' => ?_⟩
    by_cases hji : j = i
    · subst hji
      exact hy.wpOp hrf hi (hsub _ _ hw') fun w'' hw'' => ⟨fun _ => hw'', fun _ => hsub _ _ hw'', wpH_ext ht H (ht _ _ _ hw' hw'')⟩
    · have h1 := H.2 j (ready_mono hj hji) w' hw'
      obtain ⟨hjun, oj, hoj, hall⟩ := mem_ready.1 hj
      have hun : listed.getD i true = false := (mem_ready.1 hr).1
      have hun2 : listed.getD i false = false := by
        rcases Nat.lt_or_ge i listed.size with h' | h'
        · simpa [h'] using hun
        · simp [Array.getElem?_eq_none h'] at hun
      have hnot : ∀ e ∈ oj.after, Region.binds md e = true → e.on ≠ i := fun e he hb heq => by
        have h1 := hall e he hb
        rw [heq, hun2] at h1; cases h1
      have hjU : j ∉ U := fun hjt => by
        have := ready_waits hdc hj (hU j hjt)
        rw [hun2] at this; cases this
      have h2 := wpOp_putH (G := G) (G2 := G2) hoj (hfree j oj hoj hji hjun hnot) (fun cs b => hsel i oi cs b hi) (fun cs b => hsel j oj cs b hoj) (fun c a w h => hQ c _ _ w (by cases oi.dst <;> rfl) h) (hy.ext ht2 (hsub _ _ hw')) h1
      have hfree' : ∀ k ok, ops[k]? = some ok → k ≠ i → (listed.setIfInBounds j true).getD k true = false →
          (∀ e ∈ ok.after, Region.binds md e = true → e.on ≠ i) → oi.apart ops ok = true := fun k ok hk hki hun hno => by
        refine hfree k ok hk hki ?_ hno
        by_cases hjk : j = k
        · subst hjk; exact hjun
        · rw [getD_set_ne true hjk] at hun; exact hun
      refine wpOp_mono (fun a' w'' h3 => ⟨h3.2.1, h3.2.2.1, ?_⟩) h2
      obtain ⟨hy', _, hG2, h4⟩ := h3
      refine ih (listed.setIfInBounds j true) a' w'' (downC_set hdc hj) hfree' (ready_mono hr (Ne.symm hji)) (hy'.ext ht2 (hG2 hjU)) ?_
      rw [Array.setIfInBounds_comm _ _ hji]
      exact h4

def permE (md : Region.Mode) (ops : Array Oper) (U : List Nat) (m : Nat) : List Nat → Array Bool → Bool
  | [], _ => true
  | i :: hd, listed => (Region.ready md ops listed).contains i && Region.free md ops listed i && (U.all fun t => (waitsFor md ops m t).contains i) && permE md ops U m hd (listed.setIfInBounds i true)
theorem wpH_looks_aux {ι : Type} {W : ι → World} (hrf : ∀ a, G a a) (ht : ∀ a b c, G a b → G b c → G a c) (ht2 : ∀ a b c, G2 a b → G2 b c → G2 a c) (hsub : ∀ a b, G a b → G2 a b) (hs : Region.noSelect ops = true) (hQ : ∀ c (a a' : Act) w, a.defers = a'.defers → Q (.panic c) a w → Q (.panic c) a' w) (m fuel : Nat) (w : World) (hW : ∀ w', G2 w w' → ∃ z, w' = W z) :
    ∀ (hd : List Nat) (lh : List Oper) (listed : Array Bool) (a : Act), hd.mapM (fun i => ops[i]?) = some lh → downC md ops listed → permE md ops U m hd listed = true →
    wpLooksG P ops G W (fun a' => wpH P md ops Q G G2 T U fuel (setAll listed hd) a' w) lh a → wpH P md ops Q G G2 T U (hd.length + fuel) listed a w
  | [], lh, listed, a, hl, _, _, h => by
    simp at hl; subst hl
    have e : ([] : List Nat).length + fuel = fuel := by simp
    rw [e]; exact h
  | i :: hd, lh, listed, a, hl, hdc, hB, h => by
    simp only [List.mapM_cons, Option.bind_eq_bind, Option.pure_def] at hl
    cases hi : ops[i]? with
    | none => simp [hi] at hl
    | some o =>
      cases hr : hd.mapM (fun i => ops[i]?) with
      | none => simp [hi, hr] at hl
      | some l' =>
        simp [hi, hr] at hl
        subst hl
        simp only [permE, Bool.and_eq_true, List.all_eq_true, List.contains_iff_mem] at hB
        obtain ⟨⟨⟨hB1, hB2⟩, hB3⟩, hB4⟩ := hB
        rw [show (i :: hd).length + fuel = (hd.length + fuel) + 1 by simp; omega]
        unfold wpLooksG at h
        split at h
        · rename_i hw
          obtain ⟨v, hv, hk⟩ := h
          exact wpH_first hrf ht ht2 hsub hi (Region.noSelect_spec hs) hQ m hB3 _ listed a w hdc (Region.free_spec hi hB2) hB1 (.inl ⟨hw, fun w' hw' => by
            obtain ⟨z, rfl⟩ := hW w' hw'
            exact hv z⟩) (wpH_looks_aux hrf ht ht2 hsub hs hQ m fuel w hW hd l' _ _ hr (downC_set hdc hB1) hB4 hk)
        · rename_i hw
          exact wpH_first hrf ht ht2 hsub hi (Region.noSelect_spec hs) hQ m hB3 _ listed a w hdc (Region.free_spec hi hB2) hB1 (.inr ⟨by simpa using hw, rfl⟩) (wpH_looks_aux hrf ht ht2 hsub hs hQ m fuel w hW hd l' _ _ hr (downC_set hdc hB1) hB4 h)
/-- What looks comes first; W z: the worlds in which it may look. -/
theorem wpH_looks {l : List Oper} {n : Nat} {lh : List Oper} {listed : Array Bool} {a : Act} {w : World} (fuel m : Nat) (hd : List Nat) (hn : n = hd.length + fuel) (hrf : ∀ a, G a a) (ht : ∀ a b c, G a b → G b c → G a c) (hrf2 : ∀ a, G2 a a) (ht2 : ∀ a b c, G2 a b → G2 b c → G2 a c) (hsub : ∀ a b, G a b → G2 a b) (hs : Region.noSelect l.toArray = true) (hQ : ∀ c (a a' : Act) w, a.defers = a'.defers → Q (.panic c) a w → Q (.panic c) a' w)
    (hl : picks l hd = some lh) (hB : (downB md l.toArray listed && permE md l.toArray U m hd listed) = true)
    (h : ∀ (ι : Type) (W : ι → World), Nonempty ι → Hid (∀ z, G2 w (W z)) → wpLooksG P l.toArray G W (fun a' => wpH P md l.toArray Q G G2 T U fuel (setAll listed hd) a' w) lh a) : wpH P md l.toArray Q G G2 T U n listed a w := by
  subst hn
  rw [Bool.and_eq_true] at hB
  obtain ⟨ι, W, hne, hW, hWs⟩ := classFam (G2 w) (hrf2 w)
  exact wpH_looks_aux hrf ht ht2 hsub hs hQ m fuel w hWs hd lh listed a (picks_eq l hd lh hl) (downB_spec hB.1) hB.2 (h ι W hne (Lib.hid hW))
/-- One operation alone is ready. -/
theorem wpH_force {l : List Oper} {fuel : Nat} {listed : Array Bool} {a : Act} {w : World} (t : Nat) (o : Oper) (ho : nthO l t = some o) (hr : (Region.ready md l.toArray listed == [t]) = true) (hg : o.guard = none)
    (h : ∀ w', G w w' → ∀ K : Act → World → Prop, (∀ a' w'', (t ∉ T → G w' w'') → (t ∉ U → G2 w' w'') → wpH P md l.toArray Q G G2 T U fuel (listed.setIfInBounds t true) a' w'' → K a' w'') → o.wp P a w' K Q) : wpH P md l.toArray Q G G2 T U (fuel + 1) listed a w := by
  have ho : l.toArray[t]? = some o := by rw [← ho, nthO_eq]; simp
  have hr' : Region.ready md l.toArray listed = [t] := by simpa using hr
  refine ⟨fun h0 => (by rw [hr'] at h0; cases h0), fun i hi w' hw' => ?_⟩
  rw [hr'] at hi
  obtain rfl : i = t := by simpa using hi
  unfold Go.wpOp
  simp only [ho]
  rw [if_pos (by simp [Region.wanted, hg])]
  exact .inl (h w' hw' _ fun a' w'' h1 h2 h3 => ⟨h1, h2, h3⟩)
theorem wpH_end {listed : Array Bool} {a : Act} {w : World} (hr : (Region.ready md ops listed).isEmpty = true) (h : ∀ w', G w w' → Q .normal a w') : ∀ fuel, wpH P md ops Q G G2 T U fuel listed a w
  | 0 => ⟨by simpa using hr, h⟩
  | _ + 1 => ⟨fun _ => h, fun i hi => by
      have : Region.ready md ops listed = [] := by simpa using hr
      rw [this] at hi; cases hi⟩
/-- Two operations are ready. -/
theorem wpH_two {l : List Oper} {fuel : Nat} {listed : Array Bool} {a : Act} {w : World} (t1 t2 : Nat) (o1 o2 : Oper) (ho1 : nthO l t1 = some o1) (ho2 : nthO l t2 = some o2) (hr : (Region.ready md l.toArray listed == [t1, t2]) = true) (hg1 : o1.guard = none) (hg2 : o2.guard = none)
    (h1 : ∀ w', G w w' → ∀ K : Act → World → Prop, (∀ a' w'', (t1 ∉ T → G w' w'') → (t1 ∉ U → G2 w' w'') → wpH P md l.toArray Q G G2 T U fuel (listed.setIfInBounds t1 true) a' w'' → K a' w'') → o1.wp P a w' K Q)
    (h2 : ∀ w', G w w' → ∀ K : Act → World → Prop, (∀ a' w'', (t2 ∉ T → G w' w'') → (t2 ∉ U → G2 w' w'') → wpH P md l.toArray Q G G2 T U fuel (listed.setIfInBounds t2 true) a' w'' → K a' w'') → o2.wp P a w' K Q) : wpH P md l.toArray Q G G2 T U (fuel + 1) listed a w := by
  have ho1 : l.toArray[t1]? = some o1 := by rw [← ho1, nthO_eq]; simp
  have ho2 : l.toArray[t2]? = some o2 := by rw [← ho2, nthO_eq]; simp
  have hr' : Region.ready md l.toArray listed = [t1, t2] := by simpa using hr
  refine ⟨fun h0 => (by rw [hr'] at h0; cases h0), fun i hi w' hw' => ?_⟩
  rw [hr'] at hi
  simp only [List.mem_cons, List.not_mem_nil, or_false] at hi
  unfold Go.wpOp
  rcases hi with rfl | rfl
  · simp only [ho1]
    rw [if_pos (by simp [Region.wanted, hg1])]
    exact .inl (h1 w' hw' _ fun a' w'' k1 k2 k3 => ⟨k1, k2, k3⟩)
  · simp only [ho2]
    rw [if_pos (by simp [Region.wanted, hg2])]
    exact .inl (h2 w' hw' _ fun a' w'' k1 k2 k3 => ⟨k1, k2, k3⟩)
theorem wp_region_H {id : Nat} {a : Act} {w : World} {l : List Oper} (G G2 : World → World → Prop) (T U : List Nat) (hrf : ∀ a, G a a) (hm : P.follows .mixedOrders = true)
    (h : wpH P .any l.toArray Q G G2 T U l.toArray.size (Array.replicate l.toArray.size false) a w.drew) : (Code.region id l.toArray true).wp P Q a w :=
  wp_region_any hm (wpAny_of_H hrf _ _ _ _ h)
end
/-- What was there below B stands. -/
def GZ (B : Nat) (a b : World) : Prop := B ≤ a.heap.size → Below B a b
theorem GZ.rf (B : Nat) (a : World) : GZ B a a := fun _ => Below.refl _ _
theorem GZ.tr (B : Nat) (a b c : World) (h : GZ B a b) (k : GZ B b c) : GZ B a c := fun hb => Below.trans (h hb) (k (Nat.le_trans hb (Below.size (h hb))))
theorem GZ.sub (B : Nat) (a b : World) (h : GB a b) : GZ B a b := fun hb => Below.mono h hb
end Go.Gv
/- The document's house beside the program's, in plain words. Conditions: those named in each theorem. -/
namespace Go.Proofs.Yteockodnfempfaa
open Go Go.RowKit Go.Gv Go.Sort

theorem bytes_eq {a b : ByteArray} (h : a.toList = b.toList) : a = b := by
  rw [ByteArray.toList_eq, ByteArray.toList_eq] at h
  exact ByteArray.ext (Array.toList_inj.1 h)
theorem name_tri (a b : ByteArray) : a.toList < b.toList ∨ a = b ∨ b.toList < a.toList := by
  by_cases h1 : a.toList < b.toList
  · exact .inl h1
  · by_cases h2 : b.toList < a.toList
    · exact .inr (.inr h2)
    · exact .inr (.inl (bytes_eq (List.le_antisymm h2 h1)))
/-- Auctions by their names, and the same by rising names. -/
structure Twin (H : MHouse) (R : List MSale) : Prop where
  perm : R.Perm (H.map (·.2))
  rise : R.Pairwise fun a b => a.name.toList < b.name.toList
  named : Named H
  nodup : (H.map (·.1)).Nodup
theorem Twin.nil : Twin [] [] := ⟨.refl _, .nil, fun _ h => by simp at h, by simp⟩
section
variable {H : MHouse} {R : List MSale}
theorem Twin.len (h : Twin H R) : R.length = H.length := by have := h.perm.length_eq; simpa using this
theorem named_keys (h : Named H) : H.map (·.1) = (H.map (·.2)).map (·.name) := by
  rw [List.map_map]
  exact List.map_congr_left fun q hq => (h q hq).symm
theorem Twin.names (h : Twin H R) : (R.map (·.name)).Perm (H.map (·.1)) := by
  rw [named_keys h.named]
  exact h.perm.map _
theorem Twin.get (h : Twin H R) {s : MSale} (hs : s ∈ R) : mget H s.name = some s := by
  have hs2 := h.perm.mem_iff.1 hs
  rw [List.mem_map] at hs2
  obtain ⟨q, hq, rfl⟩ := hs2
  rw [mgetMem h.nodup, h.named q hq]
  exact hq
theorem Twin.none (h : Twin H R) {k : ByteArray} (hn : ∀ s ∈ R, s.name ≠ k) : mget H k = none := by
  rw [mget_none]
  intro hk
  have := h.names.mem_iff.2 hk
  rw [List.mem_map] at this
  obtain ⟨s, hs, e⟩ := this
  exact hn s hs e
theorem Twin.rises (h : Twin H R) {i j : Nat} {s t : MSale} (hi : R[i]? = some s) (hj : R[j]? = some t) (hij : i < j) : s.name.toList < t.name.toList := by
  have h1 := (List.getElem?_eq_some_iff.1 hi)
  have h2 := (List.getElem?_eq_some_iff.1 hj)
  have := List.pairwise_iff_getElem.1 h.rise i j h1.1 h2.1 hij
  rw [h1.2, h2.2] at this
  exact this
theorem Twin.at_one (h : Twin H R) {i j : Nat} {s t : MSale} (hi : R[i]? = some s) (hj : R[j]? = some t) (e : s.name = t.name) : i = j := by
  rcases Nat.lt_trichotomy i j with h1 | h1 | h1
  · have := h.rises hi hj h1; rw [e] at this; exact absurd this (List.lt_irrefl _)
  · exact h1
  · have := h.rises hj hi h1; rw [e] at this; exact absurd this (List.lt_irrefl _)
/-- One more. -/
theorem Twin.ins (h : Twin H R) {x : MSale} (hnone : mget H x.name = Option.none) {i : Nat} (hi : i ≤ R.length) (h1 : i = 0 ∨ ∃ s, R[i - 1]? = some s ∧ ¬ x.name.toList < s.name.toList) (h2 : ∀ j s, i ≤ j → R[j]? = some s → x.name.toList < s.name.toList) :
    Twin (mset H x.name x) (R.take i ++ x :: R.drop i) := by
  have hk := mget_none.1 hnone
  have hm : mset H x.name x = H ++ [(x.name, x)] := by unfold mset; rw [if_neg hk]
  have hlo : ∀ s ∈ R.take i, s.name.toList < x.name.toList := by
    intro s hs
    rcases h1 with rfl | ⟨t, ht, hlt⟩
    · simp at hs
    · obtain ⟨j, hj⟩ := List.getElem?_of_mem hs
      rw [List.getElem?_take] at hj
      split at hj
      · rename_i hji
        have hne : ∀ u ∈ R, u.name ≠ x.name := fun u hu e => by
          have := h.get hu; rw [e, hnone] at this; cases this
        have htx : t.name.toList < x.name.toList := by
          rcases name_tri t.name x.name with h3 | h3 | h3
          · exact h3
          · exact absurd h3 (hne t (List.mem_of_getElem? ht))
          · exact absurd h3 hlt
        by_cases e : j = i - 1
        · subst e; rw [hj] at ht; injection ht with ht; subst ht; exact htx
        · exact List.lt_trans (h.rises hj ht (by omega)) htx
      · cases hj
  refine ⟨?_, ?_, ?_, ?_⟩
  · rw [hm, List.map_append]
    refine List.Perm.trans List.perm_middle ?_
    rw [List.take_append_drop]
    exact (List.Perm.cons x h.perm).trans (List.perm_append_comm (l₁ := [x]))
  · rw [List.pairwise_append]
    refine ⟨h.rise.sublist (List.take_sublist _ _), List.pairwise_cons.2 ⟨fun s hs => ?_, h.rise.sublist (List.drop_sublist _ _)⟩, fun a ha b hb => ?_⟩
    · obtain ⟨j, hj⟩ := List.getElem?_of_mem hs
      rw [List.getElem?_drop] at hj
      exact h2 _ _ (by omega) hj
    · rcases List.mem_cons.1 hb with rfl | hb
      · exact hlo a ha
      · obtain ⟨j, hj⟩ := List.getElem?_of_mem hb
        rw [List.getElem?_drop] at hj
        exact List.lt_trans (hlo a ha) (h2 _ _ (by omega) hj)
  · exact h.named.set rfl
  · exact mset_nodup h.nodup _ _
/-- One is turned. -/
theorem Twin.upd (h : Twin H R) {i : Nat} {s x : MSale} (hi : R[i]? = some s) (hx : x.name = s.name) : Twin (mset H s.name x) (R.set i x) := by
  have hmem := List.mem_of_getElem? hi
  have hk : s.name ∈ H.map (·.1) := h.names.mem_iff.1 (List.mem_map.2 ⟨s, hmem, rfl⟩)
  have hm : mset H s.name x = H.map fun p => if p.1 = s.name then (s.name, x) else p := by unfold mset; rw [if_pos hk]
  have hset : R.set i x = R.map fun t => if t.name = s.name then x else t := by
    apply List.ext_getElem?
    intro j
    rw [List.getElem?_map, List.getElem?_set]
    have hil := (List.getElem?_eq_some_iff.1 hi).1
    by_cases e : i = j
    · subst e
      rw [if_pos rfl, if_pos hil, hi]
      simp
    · rw [if_neg e]
      cases hj : R[j]? with
      | none => rfl
      | some t =>
        have : t.name ≠ s.name := fun e2 => e (h.at_one hi hj e2.symm)
        simp [this]
  refine ⟨?_, ?_, h.named.set hx, mset_nodup h.nodup _ _⟩
  · rw [hset, hm, List.map_map]
    have e : (H.map ((fun x => x.2) ∘ fun p => if p.1 = s.name then (s.name, x) else p)) = (H.map (·.2)).map fun t => if t.name = s.name then x else t := by
      rw [List.map_map]
      refine List.map_congr_left fun q hq => ?_
      simp only [Function.comp]
      rw [h.named q hq]
      split <;> rfl
    rw [e]
    exact h.perm.map _
  · rw [hset, List.pairwise_map]
    refine h.rise.imp fun {a b} hab => ?_
    have e1 : ∀ t : MSale, (if t.name = s.name then x else t).name = t.name := fun t => by
      split
      · rename_i e; rw [hx, e]
      · rfl
    rw [e1, e1]; exact hab
def settleL (R : List MSale) (now : Int) : List MSale := R.map fun s => if dueB now s = true then doneM s else s
theorem Twin.settle (h : Twin H R) (now : Int) : Twin (settleH H now) (settleL R now) := by
  refine ⟨?_, ?_, h.named.settle now, by rw [settleH_keys]; exact h.nodup⟩
  · unfold settleH settleL
    rw [List.map_map]
    have e : (H.map ((fun x => x.2) ∘ fun q => if dueB now q.2 = true then (q.1, doneM q.2) else q)) = (H.map (·.2)).map fun s => if dueB now s = true then doneM s else s := by
      rw [List.map_map]
      refine List.map_congr_left fun q _ => ?_
      simp only [Function.comp]
      split <;> rfl
    rw [e]
    exact h.perm.map _
  · unfold settleL
    rw [List.pairwise_map]
    refine h.rise.imp fun {a b} hab => ?_
    have e1 : ∀ t : MSale, (if dueB now t = true then doneM t else t).name = t.name := fun t => by split <;> rfl
    rw [e1, e1]; exact hab
/-- What is due, by close, then in the order of names: the list that the program's sort makes. -/
theorem Twin.due (h : Twin H R) {now : Int} {D D' : List MSale} (hD : D.Perm (dueM H now)) (hs : D.Pairwise saleLe) (hD' : D'.Perm (R.filter (dueB now))) (hs' : D'.Pairwise saleLe) : D = D' := by
  have hp : (R.filter (dueB now)).Perm (dueM H now) := by
    have e : dueM H now = (H.map (·.2)).filter (dueB now) := by
      unfold dueM
      rw [List.filter_map]
      rfl
    rw [e]
    exact h.perm.filter _
  have hp2 : D.Perm D' := hD.trans (hp.symm.trans hD'.symm)
  have hnd := due_names h.nodup h.named hD
  refine hp2.eq_of_pairwise (fun a b ha hb hab hba => ?_) hs hs'
  have hb2 := hp2.mem_iff.2 hb
  have hn : a.name = b.name := by
    unfold saleLe at hab hba
    rcases name_tri a.name b.name with h3 | h3 | h3
    · rcases hab with h4 | ⟨h4, h5⟩
      · rcases hba with h6 | ⟨h6, _⟩ <;> omega
      · rcases hba with h6 | ⟨h6, h7⟩
        · omega
        · exact absurd h3 h7
    · exact h3
    · rcases hab with h4 | ⟨h4, h5⟩
      · rcases hba with h6 | ⟨h6, _⟩ <;> omega
      · exact absurd h3 h5
  obtain ⟨i, hi⟩ := List.getElem?_of_mem ha
  obtain ⟨j, hj⟩ := List.getElem?_of_mem hb2
  have h1 := List.getElem?_eq_some_iff.1 hi
  have h2 := List.getElem?_eq_some_iff.1 hj
  have hij : i = j := by
    have hi' : i < (D.map (·.name)).length := by rw [List.length_map]; exact h1.1
    have hj' : j < (D.map (·.name)).length := by rw [List.length_map]; exact h2.1
    refine List.getElem_inj (xs := D.map (·.name)) (h₀ := hi') (h₁ := hj') hnd |>.1 ?_
    rw [List.getElem_map, List.getElem_map, h1.2, h2.2]
    exact hn
  subst hij
  rw [hi] at hj
  injection hj
end
/-- Which of them are due, as the document gathers them: one behind the other into their places. -/
structure DueL (R : List MSale) (now : Int) (k : Nat) (I : List Nat) : Prop where
  perm : I.Perm ((List.range k).filter fun i => match R[i]? with | some s => dueB now s | none => false)
  rise : I.Pairwise fun i j => ∀ s t, R[i]? = some s → R[j]? = some t → s.close < t.close ∨ (s.close = t.close ∧ i < j)
theorem DueL.start (R : List MSale) (now : Int) : DueL R now 0 [] := ⟨by simp, .nil⟩
theorem DueL.lt {R : List MSale} {now : Int} {k : Nat} {I : List Nat} (h : DueL R now k I) {i : Nat} (hi : i ∈ I) : i < k ∧ ∃ s, R[i]? = some s ∧ dueB now s = true := by
  have := h.perm.mem_iff.1 hi
  rw [List.mem_filter, List.mem_range] at this
  obtain ⟨h1, h2⟩ := this
  refine ⟨h1, ?_⟩
  cases hs : R[i]? with
  | none => rw [hs] at h2; cases h2
  | some s => rw [hs] at h2; exact ⟨s, rfl, h2⟩
theorem DueL.skip {R : List MSale} {now : Int} {k : Nat} {I : List Nat} (h : DueL R now k I) {s : MSale} (hs : R[k]? = some s) (hd : dueB now s = false) : DueL R now (k + 1) I := by
  refine ⟨?_, h.rise⟩
  rw [List.range_succ, List.filter_append, List.filter_cons_of_neg (by rw [hs]; simp [hd])]
  simpa using h.perm
theorem DueL.add {R : List MSale} {now : Int} {k : Nat} {I : List Nat} (h : DueL R now k I) {s : MSale} (hs : R[k]? = some s) (hd : dueB now s = true) {p : Nat} (hp : p ≤ I.length) (h1 : p = 0 ∨ ∃ i t, I[p - 1]? = some i ∧ R[i]? = some t ∧ t.close ≤ s.close) (h2 : ∀ j i t, p ≤ j → I[j]? = some i → R[i]? = some t → s.close < t.close) :
    DueL R now (k + 1) (I.take p ++ k :: I.drop p) := by
  have hlo : ∀ i ∈ I.take p, ∀ t, R[i]? = some t → t.close ≤ s.close := by
    intro i hi t ht
    rcases h1 with rfl | ⟨i1, t1, hi1, ht1, hc⟩
    · simp at hi
    · obtain ⟨j, hj⟩ := List.getElem?_of_mem hi
      rw [List.getElem?_take] at hj
      split at hj
      · rename_i hjp
        by_cases e : j = p - 1
        · subst e; rw [hj] at hi1; injection hi1 with hi1; subst hi1; rw [ht] at ht1; injection ht1 with ht1; subst ht1; exact hc
        · have g1 := List.getElem?_eq_some_iff.1 hj
          have g2 := List.getElem?_eq_some_iff.1 hi1
          have := List.pairwise_iff_getElem.1 h.rise j (p - 1) g1.1 g2.1 (by omega) t t1 (by rw [g1.2]; exact ht) (by rw [g2.2]; exact ht1)
          omega
      · cases hj
  refine ⟨?_, ?_⟩
  · rw [List.range_succ, List.filter_append, List.filter_cons_of_pos (by rw [hs]; exact hd)]
    refine List.Perm.trans List.perm_middle ?_
    rw [List.take_append_drop]
    exact (List.Perm.cons k h.perm).trans (List.perm_append_comm (l₁ := [k]))
  · rw [List.pairwise_append]
    refine ⟨h.rise.sublist (List.take_sublist _ _), List.pairwise_cons.2 ⟨fun i hi s' t hs' ht => ?_, h.rise.sublist (List.drop_sublist _ _)⟩, fun a ha b hb s' t hs' ht => ?_⟩
    · obtain ⟨j, hj⟩ := List.getElem?_of_mem hi
      rw [List.getElem?_drop] at hj
      rw [hs] at hs'; injection hs' with hs'; subst hs'
      exact .inl (h2 _ _ _ (by omega) hj ht)
    · have hak := (h.lt (List.mem_of_mem_take ha)).1
      have hac := hlo a ha s' hs'
      rcases List.mem_cons.1 hb with rfl | hb
      · rw [hs] at ht; injection ht with ht; subst ht
        omega
      · obtain ⟨j, hj⟩ := List.getElem?_of_mem hb
        rw [List.getElem?_drop] at hj
        have := h2 _ _ _ (by omega) hj ht
        exact .inl (by omega)
/-- The due ones, by their places. -/
def byPlace (R : List MSale) (I : List Nat) : List MSale := I.filterMap (R[·]?)
theorem filter_range (R : List MSale) (q : MSale → Bool) : ∀ (n : Nat), n ≤ R.length → byPlace R ((List.range n).filter fun i => match R[i]? with | some s => q s | none => false) = (R.take n).filter q
  | 0, _ => by simp [byPlace]
  | n + 1, h => by
    have ih := filter_range R q n (by omega)
    unfold byPlace at *
    rw [List.range_succ, List.filter_append, List.filterMap_append, ih, List.take_add_one, List.filter_append]
    congr 1
    have hn : R[n]? = some R[n] := List.getElem?_eq_getElem (by omega)
    cases hq : q R[n] with
    | true => rw [List.filter_cons_of_pos (by rw [hn]; exact hq)]; simp [hn, hq]
    | false => rw [List.filter_cons_of_neg (by rw [hn]; simp [hq])]; simp [hn, hq]
theorem DueL.perm_due {R : List MSale} {now : Int} {I : List Nat} (h : DueL R now R.length I) : (byPlace R I).Perm (R.filter (dueB now)) := by
  have := h.perm.filterMap (R[·]?)
  have e := filter_range R (dueB now) R.length (Nat.le_refl _)
  rw [List.take_of_length_le (Nat.le_refl _)] at e
  unfold byPlace at e
  rw [e] at this
  exact this
theorem DueL.sorted {H : MHouse} {R : List MSale} (hT : Twin H R) {now : Int} {k : Nat} {I : List Nat} (h : DueL R now k I) : (byPlace R I).Pairwise saleLe := by
  unfold byPlace
  rw [List.pairwise_filterMap]
  refine h.rise.imp fun {i j} hij s hs t ht => ?_
  rcases hij s t hs ht with h1 | ⟨h1, h2⟩
  · exact .inl h1
  · exact .inr ⟨h1, fun h3 => absurd (List.lt_trans h3 (hT.rises hs ht h2)) (List.lt_irrefl _)⟩
theorem DueL.nodup {R : List MSale} {now : Int} {k : Nat} {I : List Nat} (h : DueL R now k I) : I.Nodup :=
  h.perm.nodup_iff.2 (List.nodup_range.sublist List.filter_sublist)
/-- The list when the first of the due ones are done. -/
def settleP (R : List MSale) (J : List Nat) : List MSale := R.mapIdx fun i s => if i ∈ J then doneM s else s
theorem settleP_nil (R : List MSale) : settleP R [] = R := by
  unfold settleP
  apply List.ext_getElem?
  intro i
  rw [List.getElem?_mapIdx]
  cases R[i]? <;> rfl
theorem settleP_len (R : List MSale) (J : List Nat) : (settleP R J).length = R.length := by unfold settleP; simp
theorem settleP_get {R : List MSale} {J : List Nat} {i : Nat} {s : MSale} (hi : R[i]? = some s) : (settleP R J)[i]? = some (if i ∈ J then doneM s else s) := by
  unfold settleP; rw [List.getElem?_mapIdx, hi]; rfl
theorem settleP_step {R : List MSale} {I : List Nat} {k i : Nat} {s : MSale} (hk : I[k]? = some i) (hi : R[i]? = some s) : (settleP R (I.take k)).set i (doneM s) = settleP R (I.take (k + 1)) := by
  have e : I.take (k + 1) = I.take k ++ [i] := by rw [List.take_add_one, hk]; rfl
  apply List.ext_getElem?
  intro j
  rw [List.getElem?_set, settleP_len]
  have hil := (List.getElem?_eq_some_iff.1 hi).1
  by_cases h : i = j
  · subst h
    rw [if_pos rfl, if_pos hil, settleP_get hi, if_pos (by rw [e]; simp)]
  · rw [if_neg h]
    unfold settleP
    rw [List.getElem?_mapIdx, List.getElem?_mapIdx]
    cases R[j]? with
    | none => rfl
    | some t =>
      have : (j ∈ I.take k) ↔ (j ∈ I.take (k + 1)) := by rw [e, List.mem_append, List.mem_singleton]; exact ⟨.inl, fun h' => h'.elim id fun e' => absurd e'.symm h⟩
      simp only [Option.map_some, this]
theorem settleP_fresh {I : List Nat} (hn : I.Nodup) {k i : Nat} (hk : I[k]? = some i) : i ∉ I.take k := by
  intro h
  obtain ⟨j, hj⟩ := List.getElem?_of_mem h
  rw [List.getElem?_take] at hj
  split at hj
  · have h1 := List.getElem?_eq_some_iff.1 hj
    have h2 := List.getElem?_eq_some_iff.1 hk
    have := (List.getElem_inj (xs := I) (h₀ := h1.1) (h₁ := h2.1) hn).1 (by rw [h1.2, h2.2])
    omega
  · cases hj
theorem DueL.settled {R : List MSale} {now : Int} {I : List Nat} (h : DueL R now R.length I) : settleP R I = settleL R now := by
  apply List.ext_getElem?
  intro j
  unfold settleP settleL
  rw [List.getElem?_mapIdx, List.getElem?_map]
  cases hj : R[j]? with
  | none => rfl
  | some s =>
    simp only [Option.map_some]
    by_cases hd : dueB now s = true
    · rw [if_pos hd, if_pos]
      rw [h.perm.mem_iff, List.mem_filter, List.mem_range, hj]
      exact ⟨(List.getElem?_eq_some_iff.1 hj).1, hd⟩
    · rw [if_neg hd, if_neg]
      intro hm
      obtain ⟨_, s', hs', hd'⟩ := h.lt hm
      rw [hj] at hs'; injection hs' with hs'; subst hs'
      exact hd hd'
/-! ### How an auction ends, as the document goes through the bids -/
/-- The best one so far, and the second one. -/
def EndI (x : MSale) (k : Nat) (best second : Int) : Prop :=
  (best = -1 ∧ second = -1 ∧ (x.bids.take k).filter (fun b => decide (x.reserve ≤ b.amount)) = []) ∨
  ∃ (i : Nat) (b : GAuctionBid) (pre post : List GAuctionBid), best = i ∧ x.bids[i]? = some b ∧ (x.bids.take k).filter (fun b => decide (x.reserve ≤ b.amount)) = pre ++ b :: post ∧ (∀ c ∈ pre, c.amount < b.amount) ∧ (∀ c ∈ post, c.amount ≤ b.amount) ∧
    ((second = -1 ∧ pre ++ post = []) ∨ ∃ (j : Nat) (c : GAuctionBid), second = j ∧ x.bids[j]? = some c ∧ c ∈ pre ++ post ∧ ∀ d ∈ pre ++ post, d.amount ≤ c.amount)
theorem EndI.start (x : MSale) : EndI x 0 (-1) (-1) := .inl ⟨rfl, rfl, by simp⟩
section
variable {x : MSale} {k : Nat} {best second : Int} {b : GAuctionBid}
theorem EndI.low (h : EndI x k best second) (hb : x.bids[k]? = some b) (hl : b.amount < x.reserve) : EndI x (k + 1) best second := by
  have e : (x.bids.take (k + 1)).filter (fun b => decide (x.reserve ≤ b.amount)) = (x.bids.take k).filter (fun b => decide (x.reserve ≤ b.amount)) := by
    rw [List.take_add_one, hb, List.filter_append]; simp; omega
  unfold EndI
  rw [e]
  exact h
theorem EndI.snoc (hb : x.bids[k]? = some b) (hl : x.reserve ≤ b.amount) : (x.bids.take (k + 1)).filter (fun b => decide (x.reserve ≤ b.amount)) = (x.bids.take k).filter (fun b => decide (x.reserve ≤ b.amount)) ++ [b] := by
  rw [List.take_add_one, hb, List.filter_append]; simp [hl]
theorem EndI.toFirst (h : EndI x k (-1) second) (hb : x.bids[k]? = some b) (hl : x.reserve ≤ b.amount) : EndI x (k + 1) k (-1) := by
  rcases h with ⟨_, _, h3⟩ | ⟨i, _, _, _, h1, _⟩
  · exact .inr ⟨k, b, [], [], rfl, hb, by rw [EndI.snoc hb hl, h3], by simp, by simp, .inl ⟨rfl, rfl⟩⟩
  · omega
theorem EndI.toBest {i : Nat} {c : GAuctionBid} (h : EndI x k i second) (hi : x.bids[i]? = some c) (hb : x.bids[k]? = some b) (hl : x.reserve ≤ b.amount) (hlt : c.amount < b.amount) : EndI x (k + 1) k i := by
  rcases h with ⟨h1, _⟩ | ⟨i', c', pre, post, h1, h2, h3, h4, h5, _⟩
  · omega
  · obtain rfl : i = i' := by omega
    rw [hi] at h2; injection h2 with h2; subst h2
    refine .inr ⟨k, b, pre ++ c :: post, [], rfl, hb, by rw [EndI.snoc hb hl, h3], fun d hd => ?_, by simp, .inr ⟨i, c, rfl, hi, by simp, fun d hd => ?_⟩⟩
    · rw [List.mem_append, List.mem_cons] at hd
      rcases hd with hd | rfl | hd
      · have := h4 d hd; omega
      · exact hlt
      · have := h5 d hd; omega
    · rw [List.append_nil, List.mem_append, List.mem_cons] at hd
      rcases hd with hd | rfl | hd
      · have := h4 d hd; omega
      · exact Int.le_refl _
      · exact h5 d hd
theorem EndI.toSecond {i : Nat} {c : GAuctionBid} (h : EndI x k i second) (hi : x.bids[i]? = some c) (hb : x.bids[k]? = some b) (hl : x.reserve ≤ b.amount) (hlt : b.amount ≤ c.amount) (hs : second = -1 ∨ ∃ (j : Nat) (d : GAuctionBid), second = j ∧ x.bids[j]? = some d ∧ d.amount < b.amount) : EndI x (k + 1) i k := by
  rcases h with ⟨h1, _⟩ | ⟨i', c', pre, post, h1, h2, h3, h4, h5, h6⟩
  · omega
  · obtain rfl : i = i' := by omega
    rw [hi] at h2; injection h2 with h2; subst h2
    refine .inr ⟨i, c, pre, post ++ [b], rfl, hi, by rw [EndI.snoc hb hl, h3]; simp, h4, fun d hd => ?_, .inr ⟨k, b, rfl, hb, by simp, fun d hd => ?_⟩⟩
    · rw [List.mem_append, List.mem_singleton] at hd
      rcases hd with hd | rfl
      · exact h5 d hd
      · exact hlt
    · rw [← List.append_assoc, List.mem_append, List.mem_singleton] at hd
      rcases hd with hd | rfl
      · rcases h6 with ⟨h7, h8⟩ | ⟨j, e, h7, h8, _, h10⟩
        · rw [h8] at hd; simp at hd
        · rcases hs with hs | ⟨j', e', hs1, hs2, hs3⟩
          · omega
          · obtain rfl : j = j' := by omega
            rw [h8] at hs2; injection hs2 with hs2; subst hs2
            have := h10 d hd; omega
      · exact Int.le_refl _
theorem EndI.none_ {i j : Nat} {c d : GAuctionBid} (h : EndI x k i j) (hi : x.bids[i]? = some c) (hj : x.bids[j]? = some d) (hb : x.bids[k]? = some b) (hl : x.reserve ≤ b.amount) (hlt : b.amount ≤ c.amount) (hs : b.amount ≤ d.amount) : EndI x (k + 1) i j := by
  rcases h with ⟨h1, _⟩ | ⟨i', c', pre, post, h1, h2, h3, h4, h5, h6⟩
  · omega
  · obtain rfl : i = i' := by omega
    rw [hi] at h2; injection h2 with h2; subst h2
    rcases h6 with ⟨h7, _⟩ | ⟨j', e, h7, h8, h9, h10⟩
    · omega
    · obtain rfl : j = j' := by omega
      rw [hj] at h8; injection h8 with h8; subst h8
      refine .inr ⟨i, c, pre, post ++ [b], rfl, hi, by rw [EndI.snoc hb hl, h3]; simp, h4, fun u hu => ?_, .inr ⟨j, d, rfl, hj, ?_, fun u hu => ?_⟩⟩
      · rw [List.mem_append, List.mem_singleton] at hu
        rcases hu with hu | rfl
        · exact h5 u hu
        · exact hlt
      · rw [List.mem_append] at h9 ⊢
        rcases h9 with h9 | h9
        · exact .inl h9
        · exact .inr (by simp [h9])
      · rw [← List.append_assoc, List.mem_append, List.mem_singleton] at hu
        rcases hu with hu | rfl
        · exact h10 u hu
        · exact hs
theorem EndI.at_best {i : Nat} (h : EndI x k i second) : ∃ c, x.bids[i]? = some c := by
  rcases h with ⟨h1, _⟩ | ⟨i', c, _, _, h1, h2, _⟩
  · omega
  · obtain rfl : i = i' := by omega
    exact ⟨c, h2⟩
theorem EndI.shape (h : EndI x k best second) : (best = -1 ∧ second = -1) ∨ ∃ (i : Nat) (c : GAuctionBid), best = i ∧ x.bids[i]? = some c ∧ (second = -1 ∨ ∃ (j : Nat) (d : GAuctionBid), second = j ∧ x.bids[j]? = some d) := by
  rcases h with ⟨h1, h2, _⟩ | ⟨i, c, _, _, h1, h2, _, _, _, h6⟩
  · exact .inl ⟨h1, h2⟩
  · refine .inr ⟨i, c, h1, h2, ?_⟩
    rcases h6 with ⟨h7, _⟩ | ⟨j, d, h7, h8, _⟩
    · exact .inl h7
    · exact .inr ⟨j, d, h7, h8⟩
theorem EndI.nobody (h : EndI x x.bids.length (-1) second) : endR x = ⟨x.name, -1, 0⟩ := by
  rcases h with ⟨_, _, h3⟩ | ⟨i, _, _, _, h1, _⟩
  · rw [List.take_of_length_le (Nat.le_refl _)] at h3
    exact endR_none h3
  · omega
theorem EndI.won {i : Nat} {c : GAuctionBid} (h : EndI x x.bids.length i second) (hi : x.bids[i]? = some c) :
    (x.vickrey = false → endR x = ⟨x.name, c.client, c.amount⟩) ∧ (x.vickrey = true → second = -1 → endR x = ⟨x.name, c.client, x.reserve⟩) ∧ (x.vickrey = true → ∀ (j : Nat) (d : GAuctionBid), second = j → x.bids[j]? = some d → endR x = ⟨x.name, c.client, d.amount⟩) := by
  rcases h with ⟨h1, _⟩ | ⟨i', c', pre, post, h1, h2, h3, h4, h5, h6⟩
  · omega
  · obtain rfl : i = i' := by omega
    rw [hi] at h2; injection h2 with h2; subst h2
    rw [List.take_of_length_le (Nat.le_refl _)] at h3
    have hE := endR_first (s := x) h3 h4 h5
    refine ⟨fun hv => by rw [hE, hv]; rfl, fun hv hs => ?_, fun hv j d hs hj => ?_⟩
    · rcases h6 with ⟨_, h8⟩ | ⟨j, _, h7, _⟩
      · rw [hE, if_pos hv, h8]; rfl
      · omega
    · rcases h6 with ⟨h7, _⟩ | ⟨j', d', h7, h8, h9, h10⟩
      · omega
      · obtain rfl : j = j' := by omega
        rw [hj] at h8; injection h8 with h8; subst h8
        have hr : x.reserve ≤ d.amount := by
          have : d ∈ x.bids.filter fun b => decide (x.reserve ≤ b.amount) := by
            rw [h3, List.mem_append, List.mem_cons]
            rw [List.mem_append] at h9
            rcases h9 with h | h
            · exact .inl h
            · exact .inr (.inr h)
          have := (List.mem_filter.1 this).2
          exact of_decide_eq_true this
        have hm := (maxP_is (pre ++ post) x.reserve).unique (M := pre ++ post) (n := d.amount) ⟨.inr ⟨d, h9, rfl⟩, hr, h10⟩ (fun _ => Iff.rfl)
        rw [hE, if_pos hv, hm]
end
end Go.Proofs.Yteockodnfempfaa
/- The document's house in memory; what its looking calls compute. Conditions: those named in each theorem. -/
namespace Go.Proofs.Yteockodnfempfaa
open Go Go.RowKit Go.Gv Go.Sort

def rb (b : GAuctionBid) : GRef15Bid := ⟨b.client, b.amount⟩
def rr (x : GAuctionResult) : GRef15Result := ⟨x.name, x.winner, x.price⟩
def MSale.ref (x : MSale) (h : Hdr) : GRef15Sale := ⟨x.name, x.vickrey, x.reserve, x.close, h, x.settled, rr x.result⟩
def RSaleIs (w : World) (s : GRef15Sale) (x : MSale) : Prop := ∃ h : Hdr, s = x.ref h ∧ Sl GRef15Bid w w.heap.size h.a h.len (x.bids.map rb) ∧ h.len ≤ h.cap ∧ h.cap ≤ maxLen
/-- Block g is the variable of a house of the document's, over the sales R. -/
def RHouseIs (w : World) (g : Nat) (R : List MSale) : Prop :=
  ∃ (h : Hdr) (ss : List GRef15Sale), w.heap[g]? = some (.cells #[h.val] 135 (0, 0)) ∧ Sl GRef15Sale w w.heap.size h.a h.len ss ∧ h.len ≤ h.cap ∧ h.cap ≤ maxLen ∧ R2 (RSaleIs w) ss R
/-- No number and no text lies in block k. -/
def Odd (w : World) (k : Nat) : Prop := ∀ p v, p.block = k → w.cell? p = some v → (∀ K n, v ≠ .int K n) ∧ ∀ s, v ≠ .string s
class FirstOk (α : Type) [Enc α] : Prop where
  first : ∀ x : α, (∃ K n, (Enc.enc x)[0]? = some (.int K n)) ∨ ∃ s, (Enc.enc x)[0]? = some (.string s)
instance : FirstOk GAuctionBid := ⟨fun _ => .inl ⟨_, _, rfl⟩⟩
instance : FirstOk GAuctionResult := ⟨fun _ => .inr ⟨_, rfl⟩⟩
instance : FirstOk GRef15Bid := ⟨fun _ => .inl ⟨_, _, rfl⟩⟩
instance : FirstOk GRef15Sale := ⟨fun _ => .inr ⟨_, rfl⟩⟩
instance : FirstOk GRef15Result := ⟨fun _ => .inr ⟨_, rfl⟩⟩
section
variable {w w' : World} {k g : Nat}
theorem Odd.get {α : Type} [Enc α] [FirstOk α] (hO : Odd w k) {a : Addr} {x : α} (h : get? α w a = some x) : a.block ≠ k := by
  intro e
  rcases FirstOk.first x with ⟨K, n, h0⟩ | ⟨s, h0⟩
  · have := get?_iff.1 h 0 _ h0
    exact (hO _ _ (by rw [add_block]; exact e) this).1 K n rfl
  · have := get?_iff.1 h 0 _ h0
    exact (hO _ _ (by rw [add_block]; exact e) this).2 s rfl
theorem Odd.sl {α : Type} [Enc α] [FirstOk α] {S : Nat → Prop} (hO : ∀ k, S k → Odd w k) (hc : Chg S w w') {A : Option Addr} {n : Nat} {xs : List α} (h : Sl α w w.heap.size A n xs) : Sl α w' w'.heap.size A n xs := by
  refine ⟨h.1, fun hn => ?_⟩
  obtain ⟨ad, e, hb, hg⟩ := h.2 hn
  exact ⟨ad, e, Nat.lt_of_lt_of_le hb hc.size, fun j x hx => hc.get (hg j x hx) (fun hs => (hO _ hs).get (hg j x hx) rfl)⟩
theorem RHouseIs.odd {R : List MSale} (h : RHouseIs w g R) : Odd w g := by
  obtain ⟨hd, ss, hb, _⟩ := h
  intro p v hp hc
  have hno : (∀ K n, hd.val ≠ .int K n) ∧ ∀ s, hd.val ≠ .string s := ⟨fun K n e => (by unfold Hdr.val at e; cases e), fun s e => (by unfold Hdr.val at e; cases e)⟩
  have hv : v = hd.val := by
    unfold World.cell? at hc
    rw [hp, hb] at hc
    simp at hc
    grind
  subst hv
  exact hno
theorem Odd.map {K V : Type} [DecidableEq K] [KEnc K] [VEnc V] {r : Nat} {m : List (K × V)} (hm : mapAt K V w r = some m) : Odd w r := by
  obtain ⟨es, c, hb, _⟩ := mapAt_iff.1 hm
  intro p v hp hc
  simp [World.cell?, hp, hb] at hc
theorem RSaleIs.odd {S : Nat → Prop} (hO : ∀ k, S k → Odd w k) (hc : Chg S w w') {s : GRef15Sale} {x : MSale} (h : RSaleIs w s x) : RSaleIs w' s x := by
  obtain ⟨hd, h1, h2, h3⟩ := h
  exact ⟨hd, h1, Odd.sl hO hc h2, h3⟩
theorem RSaleIs.bel (hb : Bel w w') {s : GRef15Sale} {x : MSale} (h : RSaleIs w s x) : RSaleIs w' s x := by
  obtain ⟨hd, h1, h2, h3⟩ := h
  exact ⟨hd, h1, h2.stepB hb, h3⟩
theorem lt_of_some {o : Obj} (h : w.heap[g]? = some o) : g < w.heap.size := by
  rcases Nat.lt_or_ge g w.heap.size with h1 | h1
  · exact h1
  · rw [Array.getElem?_eq_none h1] at h; cases h
theorem RHouseIs.lt {R : List MSale} (h : RHouseIs w g R) : g < w.heap.size := by
  obtain ⟨_, _, hb, _⟩ := h
  exact lt_of_some hb
theorem RHouseIs.off {R : List MSale} {S : Nat → Prop} (h : RHouseIs w g R) (hO : ∀ k, S k → Odd w k) (hc : Chg S w w') (hne : ¬ S g) : RHouseIs w' g R := by
  have hl := h.lt
  obtain ⟨hd, ss, hb, h1, h2, h3, h4⟩ := h
  exact ⟨hd, ss, (hc.block g hl hne).trans hb, Odd.sl hO hc h1, h2, h3, h4.mono fun _ _ h => RSaleIs.odd hO hc h⟩
theorem RHouseIs.bel {R : List MSale} (h : RHouseIs w g R) (hb : Bel w w') : RHouseIs w' g R := by
  have hl := h.lt
  obtain ⟨hd, ss, hb1, h1, h2, h3, h4⟩ := h
  exact ⟨hd, ss, (Below.block hb g hl).trans hb1, h1.stepB hb, h2, h3, h4.mono fun _ _ h => h.bel hb⟩
/-- A new list of sales is laid into the house's variable. -/
theorem RHouseIs.lay {R R' : List MSale} {hd : Hdr} {ss : List GRef15Sale} (h : RHouseIs w g R) (h1 : Sl GRef15Sale w w.heap.size hd.a hd.len ss) (h2 : hd.len ≤ hd.cap) (h3 : hd.cap ≤ maxLen) (h4 : R2 (RSaleIs w) ss R') : RHouseIs (w.setCell ⟨g, 0, none⟩ hd.val) g R' := by
  have hO : ∀ k, k = g → Odd w k := fun k e => by subst e; exact h.odd
  have hc : Chg (fun q => q = g) w (w.setCell ⟨g, 0, none⟩ hd.val) := ⟨rfl, rfl, rfl, by simp, fun k _ hn => Below.heap_setCell _ _ _ _ hn⟩
  obtain ⟨hd0, _, hb, _⟩ := h
  refine ⟨hd, ss, ?_, Odd.sl hO hc h1, h2, h3, h4.mono fun _ _ h => RSaleIs.odd hO hc h⟩
  rw [heap_setCell_same w g 0 _ _ _ hb]
  rfl
theorem RHouseIs.cell {R : List MSale} (h : RHouseIs w g R) : ∃ (h : Hdr) (ss : List GRef15Sale), w.cell? ⟨g, 0, none⟩ = some (.slice h.a R.length h.cap) ∧ h.len = R.length ∧ blkFree w g = true ∧ Sl GRef15Sale w w.heap.size h.a R.length ss ∧ R.length ≤ h.cap ∧ h.cap ≤ maxLen ∧ R2 (RSaleIs w) ss R := by
  obtain ⟨hd, ss, hb, h1, h2, h3, h4⟩ := h
  have hl : hd.len = R.length := by rw [← h1.1]; exact h4.len
  refine ⟨hd, ss, ?_, hl, ?_, by rw [← hl]; exact h1, by rw [← hl]; exact h2, h3, h4⟩
  · unfold World.cell?
    simp only [hb]
    rw [← hl]
    rfl
  · unfold blkFree
    rw [hb]; rfl
/-- What changes in the house's variable alone leaves the program's houses as they are. -/
theorem SaleIs.odd {S : Nat → Prop} (hO : ∀ k, S k → Odd w k) (hc : Chg S w w') {s : GAuctionSale} {x : MSale} (h : SaleIs w s x) : SaleIs w' s x := by
  obtain ⟨hd, h1, h2, h3⟩ := h
  exact ⟨hd, h1, Odd.sl hO hc h2, h3⟩
theorem HouseIs.off {p : Addr} {r : Nat} {H : MHouse} {S : Nat → Prop} (h : HouseIs w p r H) (hO : ∀ k, S k → Odd w k) (hc : Chg S w w') (hp : ¬ S p.block) (hr : ¬ S r) : HouseIs w' p r H := by
  obtain ⟨h1, m, hm, h2⟩ := h
  exact ⟨hc.cell h1 hp, m, hc.map hm hr, HRel.mono (fun _ _ hs => SaleIs.odd hO hc hs) h2⟩
/-- What changes in a map alone leaves the document's houses as they are. -/
theorem RHouseIs.gx {R : List MSale} {K V : Type} [DecidableEq K] [KEnc K] [VEnc V] {r : Nat} {m : List (K × V)} (h : RHouseIs w g R) (hm : mapAt K V w r = some m) (hg : GX r w w') : RHouseIs w' g R := by
  refine h.off (S := fun k => k = r) (fun k e => by subst e; exact Odd.map hm) (Chg.of_grown hg fun k e => by injection e with e; exact e.symm) ?_
  rintro rfl
  obtain ⟨_, _, hb, _⟩ := h
  obtain ⟨es, c, hb2, _⟩ := mapAt_iff.1 hm
  rw [hb] at hb2; cases hb2
end
theorem get?_off {α : Type} [Enc α] {w : World} {a : Addr} {j : Nat} {x : α} (hj : 0 < j) (h : get? α w (a.add j) = some x) : get? α w ⟨a.block, a.off + j, none⟩ = some x := by
  unfold Addr.add at h
  rwa [if_neg (by omega)] at h
def strL (l : List ByteArray) : List StrV := l.map StrV.mk
theorem strL_len (l : List ByteArray) : (strL l).length = l.length := by unfold strL; simp
theorem strL_snoc (l : List ByteArray) (x : ByteArray) : strL l ++ [(⟨x⟩ : StrV)] = strL (l ++ [x]) := by unfold strL; simp
def namesR (R : List MSale) : List ByteArray := R.map (·.name)
theorem namesR_len (R : List MSale) : (namesR R).length = R.length := by unfold namesR; simp
theorem namesR_snoc {R : List MSale} {k : Nat} {x : MSale} (h : R[k]? = some x) : namesR (R.take k) ++ [x.name] = namesR (R.take (k + 1)) := by unfold namesR; rw [List.take_add_one, h, List.map_append]; rfl
@[go_sem ↓ high] theorem build_rhouse (w : World) (A : Option Addr) (n c : Nat) : (gBuild 135 #[(0, .slice A n c)]).run Try.prog w = .ok (GRef15House.val ⟨⟨A, n, c⟩⟩) w := bd135_0 w ⟨A, n, c⟩
/-! ### find -/
def FindIs (R : List MSale) (k : ByteArray) (i : Int) : Prop := (i = -1 ∧ ∀ s ∈ R, s.name ≠ k) ∨ ∃ (j : Nat) (s : MSale), i = j ∧ R[j]? = some s ∧ s.name = k
set_option maxRecDepth 100000 in
set_option maxHeartbeats 1000000 in
theorem rfind_any (g : Nat) (R : List MSale) (name : ByteArray) (w : World) (hR : RHouseIs w g R) (hl : R.length ≤ 1000000) :
    Calls Try.prog 129 #[.pointer (some ⟨g, 0, none⟩), .string name] w fun e w' => ∃ i, e = .returned (.int .i64 i) ∧ FindIs R name i ∧ w' = w := by
  obtain ⟨hd, ss, hc, _, _, hs, _, _, hr⟩ := hR.cell
  obtain ⟨n, hn⟩ : ∃ n, R.length = n := ⟨_, rfl⟩
  rw [hn] at hc hl hs
  have HS := Lib.hid hs; have HR := Lib.hid hr; have HN := Lib.hid hn
  clear hR hs hr hn
  go_enter Try.func129, Try.ntmps129
  go_wp2_with fail
  go_loopw [11] (fun i wr => ∃ k : Nat, k ≤ n ∧ i = .int .i64 k ∧ wr = w ∧ Hid (∀ (j : Nat) (s : MSale), j < k → R[j]? = some s → s.name ≠ name)) (fun i _ => n - (intOf i).toNat)
  case atStart => exact ⟨0, Nat.zero_le _, rfl, rfl, (fun j s h => absurd h (by omega) : ∀ (j : Nat) (s : MSale), j < 0 → R[j]? = some s → s.name ≠ name)⟩
  case round =>
    obtain ⟨k, hk, rfl, rfl, hno⟩ := hrel
    by_cases hlt : k < n
    · obtain ⟨ad, s, hA, _, hsk, hg⟩ := HS.out.at_ (k := k) hlt
      obtain ⟨x, hx, hsx⟩ := HR.out.at_ hsk
      change get? GRef15Sale wr (ad.add (k * 9)) = some s at hg
      have f1 := GRef15Sale.at_name hg
      have hnm : s.name = x.name := by obtain ⟨_, rfl, _⟩ := hsx; rfl
      rw [Addr.add_zero', hnm] at f1
      rw [hA] at hc
      have HX := Lib.hid hx
      have hlt2 : (k : Int) < (n : Int) := by omega
      have hk0 : (0 : Int) ≤ (k : Int) := by omega
      clear hsk hsx hg hx hA hnm
      by_cases he : x.name = name
      · rw [he] at f1
        go_wp2_with fail
        go_ret
        exact ⟨_, rfl, .inr ⟨k, x, rfl, HX.out, he⟩, rfl⟩
      · have hq : (x.name.toList == name.toList) = false := by simpa using fun e => he (bytes_eq e)
        go_wp2_with fail
        refine ⟨⟨k + 1, by omega, by go_num, trivial, (fun j s h1 h2 => by
          by_cases e : j = k
          · subst e; rw [HX.out] at h2; injection h2 with h2; subst h2; exact he
          · exact hno.out j s (by omega) h2 : ∀ (j : Nat) (s : MSale), j < k + 1 → R[j]? = some s → s.name ≠ name)⟩, by simp [intOf]; omega⟩
    · have hn1 : ¬ (k : Int) < (n : Int) := by omega
      go_wp2_with fail
      go_ret
      refine ⟨_, rfl, .inl ⟨rfl, fun s hs => ?_⟩, rfl⟩
      obtain ⟨j, hj⟩ := List.getElem?_of_mem hs
      have := (List.getElem?_eq_some_iff.1 hj).1
      exact hno.out j s (by have := HN.out; omega) hj
end Go.Proofs.Yteockodnfempfaa
/- What the looking calls of the document's house compute. Conditions: those named in each theorem. -/
namespace Go.Proofs.Yteockodnfempfaa
open Go Go.RowKit Go.Gv Go.Sort

set_option maxHeartbeats 400000 in
theorem letters_any (s : ByteArray) (w : World) (hs : s.size ≤ maxLen) :
    Calls Try.prog 128 #[.string s] w fun e w' => e = .returned (.bool (nameB s)) ∧ w = w' := by
  unfold maxLen at hs
  go_enter Try.func128, Try.ntmps128
  go_wp2
  go_loop [3] (fun i => ∃ k : Nat, k ≤ s.size ∧ i = .int .i64 k ∧ (s.data.toList.take k).all letB = true) (fun i => s.size - (intOf i).toNat)
  case atStart => exact ⟨0, Nat.zero_le _, rfl, rfl⟩
  case round =>
    obtain ⟨k, hk, rfl, hall⟩ := hrel
    have HA := Lib.hid hall; clear hall
    by_cases hlt : k < s.size
    · have hts := Lib.hid (take_snocB s k hlt)
      have hno := Lib.hid (fun hc => all_no hlt hc)
      obtain ⟨c, hc⟩ : ∃ c, s[k] = c := ⟨_, rfl⟩
      have HC := Lib.hid hc
      by_cases h1 : (c.toNat : Int) < 97
      · have hb : letB s[k] = false := by rw [hc]; unfold letB; simp; omega
        have HB := Lib.hid hb; clear hb
        go_wp2
        go_ret
        refine ⟨ret_bool ?_, rfl⟩
        rw [nameB_eq, hno.out HB.out]; rfl
      · by_cases h2 : 122 < (c.toNat : Int)
        · have hb : letB s[k] = false := by rw [hc]; unfold letB; simp; omega
          have HB := Lib.hid hb; clear hb
          go_wp2
          go_ret
          refine ⟨ret_bool ?_, rfl⟩
          rw [nameB_eq, hno.out HB.out]; rfl
        · have hb : letB s[k] = true := by rw [hc]; unfold letB; simp; omega
          have HB := Lib.hid hb; clear hb
          go_wp2
          go_round
          case rel => exact ⟨k + 1, by omega, by go_num, by rw [hts.out, List.all_append, HA.out]; simp [HB.out]⟩
          case measure => simp [intOf]; omega
    · have hall : s.data.toList.all letB = true := by
        have := HA.out
        rwa [List.take_of_length_le (by simp; omega)] at this
      have HA2 := Lib.hid hall; clear hall
      by_cases h1 : 1 ≤ s.size
      · by_cases h2 : s.size ≤ 16
        · go_wp2
          go_ret
          exact ⟨ret_bool (by rw [nameB_eq, HA2.out]; simp [h1]; omega), rfl⟩
        · go_wp2
          go_ret
          exact ⟨ret_bool (by rw [nameB_eq, HA2.out]; simp [h2]; omega), rfl⟩
      · go_wp2
        go_ret
        exact ⟨ret_bool (by rw [nameB_eq, HA2.out]; simp [h1]), rfl⟩
theorem letters_is (r : Bool) (s : ByteArray) (w : World) (hr : nameB s = r) (hs : s.size ≤ maxLen) :
    Calls Try.prog 128 #[.string s] w fun e w' => e = .returned (.bool r) ∧ w' = w := by subst hr; exact flipC (letters_any s w hs)
/-- A name's place among the twins. -/
theorem Twin.found {H : MHouse} {R : List MSale} (h : Twin H R) {k : ByteArray} {i : Int} (hf : FindIs R k i) : (i = -1 ∧ mget H k = Option.none) ∨ ∃ (j : Nat) (s : MSale), i = j ∧ R[j]? = some s ∧ s.name = k ∧ mget H k = some s := by
  rcases hf with ⟨h1, h2⟩ | ⟨j, s, h1, h2, h3⟩
  · exact .inl ⟨h1, h.none h2⟩
  · exact .inr ⟨j, s, h1, h2, h3, by rw [← h3]; exact h.get (List.mem_of_getElem? h2)⟩
set_option maxRecDepth 100000 in
set_option maxHeartbeats 1000000 in
theorem rbids_any (g : Nat) (H : MHouse) (R : List MSale) (name : ByteArray) (w : World) (hR : RHouseIs w g R) (hT : Twin H R) (hl : R.length ≤ 1000000) :
    Calls Try.prog 106 #[.pointer (some ⟨g, 0, none⟩), .string name] w fun e w' => e = .returned (.int .i64 (bidsN H name)) ∧ w' = w := by
  obtain ⟨hd, ss, hc, _, _, hs, _, _, hr⟩ := hR.cell
  obtain ⟨n, hn⟩ : ∃ n, R.length = n := ⟨_, rfl⟩
  have HF := Lib.hid (rfind_any g R name w hR hl)
  rw [hn] at hc hs
  have HS := Lib.hid hs; have HR := Lib.hid hr; have HN := Lib.hid hn; have HT := Lib.hid hT
  clear hR hs hr hn hl hT
  go_enter Try.func106, Try.ntmps106
  go_wp2_with fail
  refine HF.out.mono ?_
  rintro _ w1 ⟨i, rfl, hf, h1⟩
  obtain rfl : w = w1 := h1.symm
  rcases HT.out.found hf with ⟨hi, hnone⟩ | ⟨j, s, hi, hj, hjn, hsome⟩
  · subst hi
    have HO := Lib.hid (show bidsN H name = 0 by unfold bidsN; rw [hnone])
    clear hnone hf
    go_wp2_with fail
    go_ret
    exact ⟨ret_int (by rw [HO.out]), rfl⟩
  · subst hi
    have hjl := (List.getElem?_eq_some_iff.1 hj).1
    rw [HN.out] at hjl
    obtain ⟨ad, x, hA, _, hxk, hg⟩ := HS.out.at_ (k := j) hjl
    obtain ⟨y, hy, hxy⟩ := HR.out.at_ hxk
    rw [hj] at hy; injection hy with hy; subst hy
    obtain ⟨hd2, rfl, hsl, hc2, hm2⟩ := hxy
    change get? GRef15Sale w (ad.add (j * 9)) = some _ at hg
    have f1 := cell_off (by omega) (GRef15Sale.at_bids hg)
    rw [add_block] at f1
    rw [hA] at hc
    have hO : bidsN H name = hd2.len := by unfold bidsN; rw [hsome]; simp only; rw [← hsl.1]; simp
    have HO := Lib.hid hO
    have hv : (s.ref hd2).bids = hd2 := rfl
    rw [hv] at f1
    obtain ⟨A2, n2, c2⟩ := hd2
    unfold Hdr.val at f1
    have hj0 : (0 : Int) ≤ (j : Int) := by omega
    have hj1 : (j : Int) < (n : Int) := by omega
    clear hxk hg hsl hf hO hsome hv hj hA
    go_wp2_with fail
    go_ret
    exact ⟨ret_int (by rw [HO.out]), rfl⟩
@[go_sem ↓ high] theorem build_rresult_none (w : World) : (gBuild 190 #[]).run Try.prog w = .ok (GRef15Result.val default) w := by
  rw [GRef15Result.val_eq]
  exact run_gBuild_of uu190 zr190 pl190 rfl w
set_option maxRecDepth 100000 in
set_option maxHeartbeats 1000000 in
theorem rresult_any (g : Nat) (H : MHouse) (R : List MSale) (name : ByteArray) (w : World) (hR : RHouseIs w g R) (hT : Twin H R) (hl : R.length ≤ 1000000) :
    Calls Try.prog 102 #[.pointer (some ⟨g, 0, none⟩), .string name] w fun e w' => e = .returned (.tuple #[(rr (resultR H name).1).val, .int .i64 (resultR H name).2]) ∧ Bel w w' := by
  have hRa : RHouseIs (w.alloc (.cells (GRef15Result.enc default).toArray 190)) g R := hR.bel ((Bel.refl w).alloc _)
  obtain ⟨hd, ss, hc, _, _, hs, _, _, hr⟩ := hRa.cell
  obtain ⟨n, hn⟩ : ∃ n, R.length = n := ⟨_, rfl⟩
  have HF := Lib.hid (rfind_any g R name _ hRa hl)
  rw [hn] at hc hs
  have HB := Lib.hid ((Bel.refl w).alloc (.cells (GRef15Result.enc default).toArray 190))
  have HS := Lib.hid hs; have HR := Lib.hid hr; have HN := Lib.hid hn; have HT := Lib.hid hT
  clear hR hRa hs hr hn hl hT
  go_enter Try.func102, Try.ntmps102
  go_wp2_with fail
  refine HF.out.mono ?_
  rintro _ w1 ⟨i, rfl, hf, h1⟩
  subst h1
  rcases HT.out.found hf with ⟨hi, hnone⟩ | ⟨j, s, hi, hj, hjn, hsome⟩
  · subst hi
    have HO := Lib.hid (show resultR H name = (default, 6) by unfold resultR; rw [hnone])
    clear hnone hf
    go_wp2_with fail
    refine bodyPost_ret (results_cell_tmp (x := (default : GRef15Result)) rfl rfl ag190 sz190 (nw190 w w.heap.size default rfl)) rfl ⟨?_, (Bel.refl w).alloc _⟩
    rw [HO.out]; simp only [GRef15Result.val_eq]; rfl
  · subst hi
    have hjl := (List.getElem?_eq_some_iff.1 hj).1
    rw [HN.out] at hjl
    obtain ⟨ad, x, hA, _, hxk, hg⟩ := HS.out.at_ (k := j) hjl
    obtain ⟨y, hy, hxy⟩ := HR.out.at_ hxk
    rw [hj] at hy; injection hy with hy; subst hy
    have hxs : x.settled = s.settled := by obtain ⟨_, rfl, _⟩ := hxy; rfl
    have hxr : x.r = rr s.result := by obtain ⟨_, rfl, _⟩ := hxy; rfl
    change get? GRef15Sale (w.alloc (.cells (GRef15Result.enc default).toArray 190)) (ad.add (j * 9)) = some _ at hg
    have f5 := cell_off (by omega) (GRef15Sale.at_settled hg)
    rw [add_block, hxs] at f5
    have f6 := get?_off (by omega) (GRef15Sale.at_r hg)
    rw [hxr, add_block] at f6
    rw [hA] at hc
    have hj0 : (0 : Int) ≤ (j : Int) := by omega
    have hj1 : (j : Int) < (n : Int) := by omega
    obtain ⟨st, hst⟩ : ∃ st, s.settled = st := ⟨_, rfl⟩
    rw [hst] at f5
    cases st
    · have HO := Lib.hid (show resultR H name = (default, 12) by unfold resultR; rw [hsome]; simp only; rw [if_neg (by rw [hst]; decide)])
      clear hxk hg hf hsome hj hA hxy hxs hxr hst
      go_wp2_with fail
      refine bodyPost_ret (results_cell_tmp (x := (default : GRef15Result)) rfl rfl ag190 sz190 (nw190 w w.heap.size default rfl)) rfl ⟨?_, (Bel.refl w).alloc _⟩
      rw [HO.out]; simp only [GRef15Result.val_eq]; rfl
    · have HO := Lib.hid (show resultR H name = (s.result, 0) by unfold resultR; rw [hsome]; simp only; rw [if_pos hst])
      clear hxk hg hf hsome hj hA hxy hxs hxr hst
      go_wp2_with fail
      refine bodyPost_ret (results_cell_tmp (x := rr s.result) rfl rfl ag190 sz190 (nw190 w w.heap.size (rr s.result) rfl)) rfl ⟨?_, (Bel.refl w).alloc _⟩
      rw [HO.out]; simp only [GRef15Result.val_eq]; rfl
set_option maxRecDepth 100000 in
set_option maxHeartbeats 1000000 in
theorem rnames_any (g : Nat) (R : List MSale) (w : World) (hR : RHouseIs w g R) (hl : R.length ≤ 1000000) :
    Calls Try.prog 105 #[.pointer (some ⟨g, 0, none⟩)] w fun e w' => ∃ v, e = .returned v ∧ OwnS w' w.heap.size 9 v (strL (namesR R)) ∧ Bel w w' := by
  obtain ⟨hd, ss, hc, _, _, hs, _, _, hr⟩ := hR.cell
  obtain ⟨n, hn⟩ : ∃ n, R.length = n := ⟨_, rfl⟩
  rw [hn] at hc hs hl
  have HC := Lib.hid hc; have HS := Lib.hid hs; have HR := Lib.hid hr; have HN := Lib.hid hn
  clear hR hs hr hn
  go_enter Try.func105, Try.ntmps105
  go_wp2_with fail
  clear hc
  go_loopw [3, 10] (fun v i wr => ∃ k : Nat, k ≤ n ∧ i = .int .i64 k ∧ OwnS wr w.heap.size 9 v (strL (namesR (R.take k))) ∧ Bel w wr) (fun _ i _ => n - (intOf i).toNat)
  case atStart => exact ⟨0, Nat.zero_le _, rfl, OwnS.nil _ _ _, Bel.refl _⟩
  case round =>
    obtain ⟨k, hk, rfl, hown, hb⟩ := hrel
    have HO := Lib.hid hown; have HB := Lib.hid hb
    clear hown hb
    by_cases hlt : k < n
    · obtain ⟨ad, s, hA, _, hsk, hg⟩ := (HS.out.stepB HB.out).at_ (k := k) hlt
      obtain ⟨x, hx, hsx⟩ := HR.out.at_ hsk
      change get? GRef15Sale wr (ad.add (k * 9)) = some s at hg
      have f1 := GRef15Sale.at_name hg
      have hnm : s.name = x.name := by obtain ⟨_, rfl, _⟩ := hsx; rfl
      rw [Addr.add_zero', hnm] at f1
      have hc := GB.cell HB.out HC.out
      rw [hA] at hc
      have hil : (strL (namesR (R.take k))).length ≤ 1000000 := by
        rw [strL_len, namesR_len, List.length_take]; omega
      obtain ⟨v7, w7, hrun7, ho7, hg7, _⟩ := gAppend_S (P := Try.prog) ei127 (t := 127) (HO.out.alloc (.cells #[.string x.name] 9)) (c := 1) (m := 1) (A := some ⟨wr.heap.size, 0, none⟩) (Sl.new_ (B := wr.heap.size + 1) (xs := [(⟨x.name⟩ : StrV)]) rfl rfl rfl (by omega)) (Nat.le_trans (Nat.add_le_add_right hil 1) (by unfold maxLen; omega)) (Nat.le_trans (Nat.mul_le_mul_right _ (Nat.add_le_add_right hil 1)) (by omega)) (by have := HB.out.size; simp only [World.size_alloc]; omega) 127
      have hb7 := (HB.out.alloc (.cells #[.string x.name] 9)).appS hg7 (HO.out.alloc (.cells #[.string x.name] 9)) (Nat.le_refl _)
      have e7 : strL (namesR (R.take k)) ++ [(⟨x.name⟩ : StrV)] = strL (namesR (R.take (k + 1))) := by rw [strL_snoc, namesR_snoc hx]
      rw [e7] at ho7
      have HO7 := Lib.hid ho7; have HB7 := Lib.hid hb7
      have hlt2 : (k : Int) < (n : Int) := by omega
      have hk0 : (0 : Int) ≤ (k : Int) := by omega
      clear hsk hsx hg hx hA hnm ho7 hb7 hg7 e7 hil
      go_wp2_with fail
      exact ⟨⟨k + 1, by omega, by go_num, HO7.out, HB7.out⟩, by simp [intOf]; omega⟩
    · obtain rfl : k = n := by omega
      have hn1 : ¬ (k : Int) < (k : Int) := by omega
      have e7 : R.take k = R := List.take_of_length_le (by rw [HN.out]; exact Nat.le_refl _)
      have ho := HO.out
      rw [e7] at ho
      have HO2 := Lib.hid ho
      clear ho e7
      go_wp2_with fail
      go_ret
      exact ⟨u3, rfl, HO2.out, HB.out⟩
set_option maxRecDepth 100000 in
set_option maxHeartbeats 1000000 in
theorem rcopyH_any (g : Nat) (R : List MSale) (w : World) (hR : RHouseIs w g R) (hl : R.length ≤ 1000000) :
    Calls Try.prog 67 #[.pointer (some ⟨g, 0, none⟩)] w fun e w' => ∃ g', e = .returned (.pointer (some ⟨g', 0, none⟩)) ∧ RHouseIs w' g' R ∧ w.heap.size ≤ g' ∧ Bel w w' := by
  obtain ⟨hd, ss, hc, _, _, hs, h2, h3, hr⟩ := hR.cell
  obtain ⟨n, hn⟩ : ∃ n, R.length = n := ⟨_, rfl⟩
  rw [hn] at hc hs hl h2
  obtain ⟨v7, w7, hrun7, ho7, hg7, _⟩ := gAppend_S (P := Try.prog) ei133 (t := 133) (OwnS.nil (α := GRef15Sale) w w.heap.size 219) (c := hd.cap) hs (by simp; unfold maxLen; omega) (by simp; omega) (Nat.le_refl _) 133
  have hb7 : Bel w w7 := (Bel.refl w).appS hg7 (OwnS.nil (α := GRef15Sale) w w.heap.size 219) (Nat.le_refl _)
  obtain ⟨A7, c7, hv7, hoa7, h7, h8⟩ := OwnS.ownA ho7
  rw [List.nil_append] at hv7 hoa7 h7
  subst hv7
  have hlen : ss.length = n := hs.1
  rw [hlen] at hrun7 h7
  have hsl7 := hoa7.sl
  rw [hlen] at hsl7
  have HSL := Lib.hid hsl7; have HB := Lib.hid hb7; have HR := Lib.hid hr; have H7 := Lib.hid h7; have H8 := Lib.hid h8
  clear hR hs hr hn ho7 hb7 hoa7 h7 h8 hsl7 hlen hg7 h2 h3
  go_enter Try.func67, Try.ntmps67
  go_wp2_with fail
  go_ret
  refine ⟨_, rfl, ⟨⟨A7, n, c7⟩, ss, ?_, HSL.out.alloc_ _ (Nat.le_refl _) |>.more (by simp), H7.out, H8.out, HR.out.mono fun _ _ h => (h.bel HB.out).bel ((Bel.refl w7).alloc _)⟩, HB.out.size, HB.out.alloc _⟩
  rw [heap_alloc_new]
  rfl
end Go.Proofs.Yteockodnfempfaa
/- How an auction of the document's ends. Conditions: those named in each theorem. -/
namespace Go.Proofs.Yteockodnfempfaa
open Go Go.RowKit Go.Gv Go.Sort

set_option maxRecDepth 100000 in
set_option maxHeartbeats 8000000 in
theorem rend_any (s : GRef15Sale) (x : MSale) (w : World) (hS : RSaleIs w s x) (hn : x.bids.length ≤ 1000000) :
    Calls Try.prog 130 #[s.val] w fun e w' => e = .returned (rr (endR x)).val ∧ Bel w w' := by
  obtain ⟨h, rfl, hx, hc1, hc2⟩ := hS
  obtain ⟨A, n, c⟩ := h
  have hl : x.bids.length = n := by have := hx.1; simpa using this
  simp only at hx hc1 hc2
  rw [hl] at hn
  have HX := Lib.hid hx; have HL := Lib.hid hl; clear hx hl
  obtain ⟨s, hs⟩ : ∃ s, s = x.ref ⟨A, n, c⟩ := ⟨_, rfl⟩
  have hsb : s.bids = ⟨A, n, c⟩ := by rw [hs]; rfl
  have hsr : s.reserve = x.reserve := by rw [hs]; rfl
  have hsn : s.name = x.name := by rw [hs]; rfl
  have hsv : s.vickrey = x.vickrey := by rw [hs]; rfl
  rw [← hs]
  obtain ⟨w2, hw2⟩ : ∃ w2, w2 = ((w.alloc (.cells s.enc.toArray 219)).alloc (.cells (default : GRef15Result).enc.toArray 190)).alloc (.cells (⟨x.name, -1, 0⟩ : GRef15Result).enc.toArray 190) := ⟨_, rfl⟩
  have hg : get? GRef15Sale w2 ⟨w.heap.size, 0, none⟩ = some s := by rw [hw2]; exact get?_alloc _ (get?_alloc _ (get?_new _ _))
  have ho : get? GRef15Result w2 ⟨w.heap.size + 1 + 1, 0, none⟩ = some ⟨x.name, -1, 0⟩ := by
    have := get?_new (w := (w.alloc (.cells s.enc.toArray 219)).alloc (.cells (default : GRef15Result).enc.toArray 190)) 190 (⟨x.name, -1, 0⟩ : GRef15Result)
    rw [World.size_alloc, World.size_alloc] at this
    rw [hw2]; exact this
  have hr0 : get? GRef15Result w2 ⟨w.heap.size + 1, 0, none⟩ = some default := by
    have := get?_new (w := w.alloc (.cells s.enc.toArray 219)) 190 (default : GRef15Result)
    rw [World.size_alloc] at this
    rw [hw2]; exact get?_alloc _ this
  have hb2 : Bel w w2 := by rw [hw2]; exact (((Bel.refl w).alloc _).alloc _).alloc _
  have hf2 : blkFree w2 (w.heap.size + 1) = true ∧ blkFree w2 (w.heap.size + 1 + 1) = true := by
    rw [hw2]
    exact ⟨by rw [blkFree_past _ _ (by simp [World.size_alloc])]; exact blkFree_new _ _ (by simp [World.size_alloc]), blkFree_new _ _ (by simp [World.size_alloc])⟩
  have hz2 : w2.heap.size = w.heap.size + 3 := by rw [hw2]; simp [World.size_alloc]
  have HS := Lib.hid hs; have HG := Lib.hid hg; have HB2 := Lib.hid hb2; have HO := Lib.hid ho; have HR0 := Lib.hid hr0; have HF2 := Lib.hid hf2; have HZ2 := Lib.hid hz2
  have f0 : ∀ o, (w.alloc (.cells s.enc.toArray 219) |>.alloc o).cell? ⟨w.heap.size, 0, none⟩ = some (.string x.name) := fun o => by
    have := cell_zero (GRef15Sale.at_name (get?_alloc o (get?_new (w := w) 219 s)))
    rwa [hsn] at this
  clear hs hg hb2 ho hr0 hf2 hz2
  go_enter Try.func130, Try.ntmps130
  go_wp2_with fail
  clear f0
  go_loopw [4, 5, 13] (fun vb vs vi wr => ∃ (k : Nat) (best second : Int), k ≤ n ∧ vi = .int .i64 k ∧ vb = .int .i64 best ∧ vs = .int .i64 second ∧ EndI x k best second ∧ Bel w2 wr) (fun _ _ vi _ => n - (intOf vi).toNat)
  case atStart => exact ⟨0, -1, -1, Nat.zero_le _, rfl, rfl, rfl, EndI.start x, by rw [hw2]; exact Bel.refl _⟩
  case round =>
    obtain ⟨k, best, second, hk, rfl, rfl, rfl, hE, hb⟩ := hrel
    have HE := Lib.hid hE; have HB := Lib.hid hb
    clear hE hb
    have hgr : get? GRef15Sale wr ⟨w.heap.size, 0, none⟩ = some s := GB.get HB.out HG.out
    have f2 : wr.cell? ⟨w.heap.size, 2, none⟩ = some (.int .i64 x.reserve) := by have := cell_off (by omega) (GRef15Sale.at_reserve hgr); rw [hsr] at this; simpa using this
    have f4 : wr.cell? ⟨w.heap.size, 4, none⟩ = some (.slice A n c) := by have := cell_off (by omega) (GRef15Sale.at_bids hgr); rw [hsb] at this; unfold Hdr.val at this; simpa using this
    by_cases hlt : k < n
    · have hat : ∀ (i : Nat) (b : GAuctionBid), x.bids[i]? = some b → ∃ ad : Addr, A = some ad ∧ wr.cell? ⟨ad.block, (ad.add (i * 2)).off + 1, none⟩ = some (.int .i64 b.amount) := fun i b hb => by
        have hil := (List.getElem?_eq_some_iff.1 hb).1
        obtain ⟨ad, y, hA, _, hy, hgy⟩ := (HX.out.stepB (HB2.out.trans HB.out)).at_ (k := i) (by rw [← HL.out]; exact hil)
        rw [List.getElem?_map, hb] at hy
        injection hy with hy
        subst hy
        change get? GRef15Bid wr (ad.add (i * 2)) = some (rb b) at hgy
        have := cell_off (by omega) (GRef15Bid.at_amount hgy)
        rw [add_block] at this
        exact ⟨ad, hA, this⟩
      obtain ⟨b, hbk⟩ : ∃ b, x.bids[k]? = some b := ⟨_, List.getElem?_eq_getElem (by rw [HL.out]; exact hlt)⟩
      obtain ⟨ad, rfl, fk⟩ := hat k b hbk
      have HBK := Lib.hid hbk
      have hlt2 : (k : Int) < (n : Int) := by omega
      have hk0 : (0 : Int) ≤ (k : Int) := by omega
      by_cases hlow : b.amount < x.reserve
      · have HE2 := Lib.hid (HE.out.low hbk hlow)
        clear hgr hat hbk
        go_wp2_with fail
        go_big_quiet (fail)
        go_wp2_with fail
        exact ⟨⟨k + 1, best, second, by omega, by go_num, rfl, rfl, HE2.out, HB.out.drewN _⟩, by simp [intOf]; omega⟩
      · have hge : x.reserve ≤ b.amount := by omega
        rcases HE.out.shape with ⟨rfl, rfl⟩ | ⟨i, cb, rfl, hic, hsec⟩
        · have HE2 := Lib.hid (HE.out.toFirst hbk hge)
          clear hgr hat hbk
          go_wp2_with fail
          go_big_quiet (fail)
          go_wp2_with fail
          go_quiet (fail)
          go_wp2_with fail
          exact ⟨⟨k + 1, k, -1, by omega, by go_num, rfl, rfl, HE2.out, (by exact Bel.trans HB.out ⟨rfl, rfl, rfl, Nat.le_refl _, fun _ _ => rfl⟩)⟩, by simp [intOf]; omega⟩
        · obtain ⟨ad2, hA2, fi⟩ := hat i cb hic
          injection hA2 with hA2; subst hA2
          have hil : i < n := by have := (List.getElem?_eq_some_iff.1 hic).1; rw [HL.out] at this; exact this
          have hi0 : (0 : Int) ≤ (i : Int) := by omega
          have hi1 : (i : Int) < (n : Int) := by omega
          have hi2 : decide ((i : Int) < 0) = false := decide_eq_false (by omega)
          by_cases hgt : cb.amount < b.amount
          · have HE2 := Lib.hid (HE.out.toBest hic hbk hge hgt)
            clear hgr hat hbk hic
            go_wp2_with fail
            go_big_quiet (fail)
            go_wp2_with fail
            go_big_quiet (fail)
            go_wp2_with fail
            exact ⟨⟨k + 1, k, i, by omega, by go_num, rfl, rfl, HE2.out, (by exact Bel.trans HB.out ⟨rfl, rfl, rfl, Nat.le_refl _, fun _ _ => rfl⟩)⟩, by simp [intOf]; omega⟩
          · rcases hsec with rfl | ⟨j, dj, rfl, hjd⟩
            · have HE2 := Lib.hid (HE.out.toSecond hic hbk hge (by omega) (.inl rfl))
              clear hgr hat hbk hic
              go_wp2_with fail
              go_big_quiet (fail)
              go_wp2_with fail
              go_big_quiet (fail)
              go_wp2_with fail
              go_quiet (fail)
              go_wp2_with fail
              exact ⟨⟨k + 1, i, k, by omega, by go_num, rfl, rfl, HE2.out, (by exact Bel.trans HB.out ⟨rfl, rfl, rfl, Nat.le_refl _, fun _ _ => rfl⟩)⟩, by simp [intOf]; omega⟩
            · obtain ⟨ad2, hA2, fj⟩ := hat j dj hjd
              injection hA2 with hA2; subst hA2
              have hjl : j < n := by have := (List.getElem?_eq_some_iff.1 hjd).1; rw [HL.out] at this; exact this
              have hj0 : (0 : Int) ≤ (j : Int) := by omega
              have hj1 : (j : Int) < (n : Int) := by omega
              have hj2 : decide ((j : Int) < 0) = false := decide_eq_false (by omega)
              by_cases hgt2 : dj.amount < b.amount
              · have HE2 := Lib.hid (HE.out.toSecond hic hbk hge (by omega) (.inr ⟨j, dj, rfl, hjd, hgt2⟩))
                clear hgr hat hbk hic hjd
                go_wp2_with fail
                go_big_quiet (fail)
                go_wp2_with fail
                go_big_quiet (fail)
                go_wp2_with fail
                go_big_quiet (fail)
                go_wp2_with fail
                exact ⟨⟨k + 1, i, k, by omega, by go_num, rfl, rfl, HE2.out, (by exact Bel.trans HB.out ⟨rfl, rfl, rfl, Nat.le_refl _, fun _ _ => rfl⟩)⟩, by simp [intOf]; omega⟩
              · have HE2 := Lib.hid (HE.out.none_ hic hjd hbk hge (by omega) (by omega))
                clear hgr hat hbk hic hjd
                go_wp2_with fail
                go_big_quiet (fail)
                go_wp2_with fail
                go_big_quiet (fail)
                go_wp2_with fail
                go_big_quiet (fail)
                go_wp2_with fail
                exact ⟨⟨k + 1, i, j, by omega, by go_num, rfl, rfl, HE2.out, (by exact Bel.trans HB.out ⟨rfl, rfl, rfl, Nat.le_refl _, fun _ _ => rfl⟩)⟩, by simp [intOf]; omega⟩
    · obtain rfl : k = n := by omega
      have hn1 : ¬ (k : Int) < (k : Int) := by omega
      have h3 := GB.get HB.out HO.out
      have h0 := GB.get HB.out HR0.out
      have k0 : blkFree wr (w.heap.size + 1) = true := GX.free (GX.of_bel HB.out (w.heap.size + 7)) HF2.out.1 (by rw [HZ2.out]; omega) (by omega)
      have k3 : blkFree wr (w.heap.size + 1 + 1) = true := GX.free (GX.of_bel HB.out (w.heap.size + 7)) HF2.out.2 (by rw [HZ2.out]; omega) (by omega)
      have hbz : w.heap.size + 3 ≤ wr.heap.size := by rw [← HZ2.out]; exact HB.out.size
      have hbw : Below w.heap.size w wr := Below.trans HB2.out (Below.mono HB.out (by rw [HZ2.out]; omega))
      have HBW := Lib.hid hbw
      have hL : EndI x x.bids.length best second := by rw [HL.out]; exact HE.out
      rcases HE.out.shape with ⟨rfl, rfl⟩ | ⟨i, cb, rfl, hic, hsec⟩
      · have HEN := Lib.hid hL.nobody
        clear hgr hbw hL
        go_wp2_with fail
        have hgn : get? GRef15Result _ ⟨w.heap.size + 1, 0, none⟩ = some (⟨x.name, -1, 0⟩ : GRef15Result) := get?_put ⟨x.name, -1, 0⟩ h0
        refine bodyPost_ret (results_cell (x := (⟨x.name, -1, 0⟩ : GRef15Result)) rfl rfl ag190 sz190 hgn) rfl ⟨?_, ?_⟩
        · rw [HEN.out]; simp only [GRef15Result.val_eq]; rfl
        · exact Below_putCells (a := ⟨w.heap.size + 1, 0, none⟩) HBW.out (by show w.heap.size ≤ w.heap.size + 1; omega) _
      · obtain ⟨hw1, hw2', hw3⟩ := hL.won hic
        have HW1 := Lib.hid hw1; have HW2 := Lib.hid hw2'; have HW3 := Lib.hid hw3
        have hil : i < k := by have := (List.getElem?_eq_some_iff.1 hic).1; rw [HL.out] at this; exact this
        obtain ⟨ad, y, hA, _, hy, hgy⟩ := (HX.out.stepB (HB2.out.trans HB.out)).at_ (k := i) hil
        rw [List.getElem?_map, hic] at hy
        injection hy with hy
        subst hy
        change get? GRef15Bid wr (ad.add (i * 2)) = some (rb cb) at hgy
        have fa := cell_off (by omega) (GRef15Bid.at_amount hgy)
        have fc := GRef15Bid.at_client hgy
        rw [add_block] at fa
        rw [Addr.add_zero'] at fc
        have e1 : (rb cb).amount = cb.amount := rfl
        have e2 : (rb cb).client = cb.client := rfl
        rw [e1] at fa; rw [e2] at fc
        have hi0 : (0 : Int) ≤ (i : Int) := by omega
        have hi1 : (i : Int) < (k : Int) := by omega
        have hi2 : ¬ (i : Int) < 0 := by omega
        subst hA
        have f1 : wr.cell? ⟨w.heap.size, 1, none⟩ = some (.bool x.vickrey) := by have := cell_off (by omega) (GRef15Sale.at_vickrey hgr); rw [hsv] at this; simpa using this
        clear hgr hbw hL hgy hic e1 e2 hw1 hw2' hw3
        have p1 : wr.cell? ⟨w.heap.size + 1 + 1, 1, none⟩ = some (.int .i64 (-1)) := by have := cell_off (by omega) (GRef15Result.at_winner h3); simpa using this
        have p2 : wr.cell? ⟨w.heap.size + 1 + 1, 2, none⟩ = some (.int .i64 0) := by have := cell_off (by omega) (GRef15Result.at_price h3); simpa using this
        go_wp2_with fail
        have hO3 : ¬ (w.heap.size = w.heap.size + 1 + 1) := by omega
        refine wp_region_H GB (Chg (fun q => q = w.heap.size + 1 + 1)) [13, 15] [] GB.rf (by kernel_rfl) ?_
        refine wpH_looks 3 0 [0,1,2,3,4,5,6,7,8,9,10,11,12] rfl GB.rf GB.tr (Chg.refl _) (fun _ _ _ h k => h.tr k) (fun _ _ h => Chg.of_bel h _) (by kernel_rfl) (fun _ _ _ _ hd h => And.intro (hd ▸ And.left h) (And.right h)) rfl (by kernel_rfl) ?_
        intro ι W hne CW
        have hadb : ad.block ≠ w.heap.size + 1 + 1 := by
          have h9 := HX.out.block_lt (by omega) rfl
          omega
        have g4 : ∀ z, (W z).cell? ⟨w.heap.size, 4, none⟩ = some (.slice (some ad) k c) := fun z => (CW.out z).cell f4 hO3
        have ga : ∀ z, (W z).cell? ⟨ad.block, (ad.add (i * 2)).off + 1, none⟩ = some (.int .i64 cb.amount) := fun z => (CW.out z).cell fa hadb
        have gc : ∀ z, (W z).cell? (ad.add (i * 2)) = some (.int .i64 cb.client) := fun z => (CW.out z).cell fc (by rw [add_block]; exact hadb)
        repeat (refine wpLooksG_step (fun K hK => ?_); go_simp; refine hK _ ?_; clear hK K)
        refine wpLooksG_nil ?_
        clear g4 ga gc CW hne W ι
        refine wpH_force 13 _ rfl (by kernel_rfl) rfl fun wa hwa K hK => ?_
        have q1 := GB.cell hwa.undrew p1
        have q4 : blkFree wa (w.heap.size + 1 + 1) = true := GX.free (GX.of_bel hwa.undrew (w.heap.size)) k3 (by omega) (by omega)
        have q3 := frozen_of_free (a := ⟨w.heap.size + 1 + 1, 1, none⟩) q4
        go_simp
        have m1 : get? GRef15Result (wa.setCell ⟨w.heap.size + 1 + 1, 1, none⟩ (.int .i64 cb.client)) ⟨w.heap.size + 1 + 1, 0, none⟩ = some ⟨x.name, cb.client, 0⟩ := get?_poke (GB.get hwa.undrew h3) rfl
        have c1 : Chg (fun q => q = w.heap.size + 1 + 1) wa (wa.setCell ⟨w.heap.size + 1 + 1, 1, none⟩ (.int .i64 cb.client)) := ⟨rfl, rfl, rfl, by simp, fun k _ hn => Below.heap_setCell _ _ _ _ hn⟩
        have q5 : blkFree (wa.setCell ⟨w.heap.size + 1 + 1, 1, none⟩ (.int .i64 cb.client)) (w.heap.size + 1 + 1) = true := by rw [blkFree_setCell]; exact q4
        refine hK _ _ (fun h => absurd (by simp) h) (fun _ => c1) ?_
        clear hK K
        have c0 : Chg (fun q => q = w.heap.size + 1 + 1) wr (wa.setCell ⟨w.heap.size + 1 + 1, 1, none⟩ (.int .i64 cb.client)) := (Chg.of_bel hwa.undrew _).tr c1
        generalize wa.setCell ⟨w.heap.size + 1 + 1, 1, none⟩ (.int .i64 cb.client) = wb at m1 q5 c0 ⊢
        clear q1 q3 q4 c1 hwa
        refine wpH_force 14 _ rfl (by kernel_rfl) rfl fun wc hwc K hK => ?_
        go_simp
        refine hK _ _ (fun _ => GB.rf _) (fun _ => Chg.refl _ _) ?_
        clear hK K
        refine wpH_force 15 _ rfl (by kernel_rfl) rfl fun wd hwd K hK => ?_
        have hbd : GB wb wd := GB.tr _ _ _ hwc hwd
        have m2 := GB.get hbd m1
        have q6 : blkFree wd (w.heap.size + 1 + 1) = true := (blkFree_keep (Below.block hbd _ (by have := c0.size; omega))).trans q5
        have q7 := frozen_of_free (a := ⟨w.heap.size + 1 + 1, 2, none⟩) q6
        have q8 : wd.cell? ⟨w.heap.size + 1 + 1, 2, none⟩ = some (.int .i64 0) := by have := cell_off (by omega) (GRef15Result.at_price m2); simpa using this
        go_simp
        have m3 : get? GRef15Result (wd.setCell ⟨w.heap.size + 1 + 1, 2, none⟩ (.int .i64 cb.amount)) ⟨w.heap.size + 1 + 1, 0, none⟩ = some ⟨x.name, cb.client, cb.amount⟩ := get?_poke m2 rfl
        have c1 : Chg (fun q => q = w.heap.size + 1 + 1) wd (wd.setCell ⟨w.heap.size + 1 + 1, 2, none⟩ (.int .i64 cb.amount)) := ⟨rfl, rfl, rfl, by simp, fun k _ hn => Below.heap_setCell _ _ _ _ hn⟩
        have q9 : blkFree (wd.setCell ⟨w.heap.size + 1 + 1, 2, none⟩ (.int .i64 cb.amount)) (w.heap.size + 1 + 1) = true := by rw [blkFree_setCell]; exact q6
        refine hK _ _ (fun h => absurd (by simp) h) (fun _ => c1) ?_
        clear hK K
        have c2 : Chg (fun q => q = w.heap.size + 1 + 1) wr (wd.setCell ⟨w.heap.size + 1 + 1, 2, none⟩ (.int .i64 cb.amount)) := (c0.tr (Chg.of_bel hbd _)).tr c1
        generalize wd.setCell ⟨w.heap.size + 1 + 1, 2, none⟩ (.int .i64 cb.amount) = we at m3 q9 c2 ⊢
        clear q5 q6 q7 q8 m1 m2 c0 c1 hbd hwc hwd
        refine wpH_end (by kernel_rfl) (fun wn hwn => ?_) _
        have m4 := GB.get hwn m3
        have c3 : Chg (fun q => q = w.heap.size + 1 + 1) wr wn := c2.tr (Chg.of_bel hwn _)
        have q10 : blkFree wn (w.heap.size + 1 + 1) = true := (blkFree_keep (Below.block hwn _ (by have := c2.size; omega))).trans q9
        have n1 : wn.cell? ⟨w.heap.size, 1, none⟩ = some (.bool x.vickrey) := c3.cell f1 hO3
        have n2 : wn.cell? ⟨w.heap.size, 2, none⟩ = some (.int .i64 x.reserve) := c3.cell f2 hO3
        have n4 : wn.cell? ⟨w.heap.size, 4, none⟩ = some (.slice (some ad) k c) := c3.cell f4 hO3
        have n0 : get? GRef15Result wn ⟨w.heap.size + 1, 0, none⟩ = some default := c3.get h0 (by show ¬ (w.heap.size + 1 = w.heap.size + 1 + 1); omega)
        have n5 : blkFree wn (w.heap.size + 1) = true := c3.free k0 (by omega) (by omega)
        have hbn : Below w.heap.size w wn := Chg.bel2 HBW.out c3 (fun q hq => by omega)
        have nq : wn.cell? ⟨w.heap.size + 1 + 1, 2, none⟩ = some (.int .i64 cb.amount) := by have := cell_off (by omega) (GRef15Result.at_price m4); simpa using this
        have hsz : w.heap.size + 3 ≤ wn.heap.size := by have := c3.size; omega
        have HBN := Lib.hid hbn
        clear m3 q9 c2 hwn hbn p1 p2 f1 f2 f4 fa fc h3 h0 k0 k3 hbz
        obtain ⟨vk, hvk⟩ : ∃ vk, x.vickrey = vk := ⟨_, rfl⟩
        rw [hvk] at n1
        cases vk
        · have HEN := Lib.hid (HW1.out hvk)
          clear HW1 HW2 HW3 hvk hsec c3
          go_wp2_with fail
          have hgn : get? GRef15Result _ ⟨w.heap.size + 1, 0, none⟩ = some (⟨x.name, cb.client, cb.amount⟩ : GRef15Result) := get?_put ⟨x.name, cb.client, cb.amount⟩ n0
          refine bodyPost_ret (results_cell (x := (⟨x.name, cb.client, cb.amount⟩ : GRef15Result)) rfl rfl ag190 sz190 hgn) rfl ⟨?_, ?_⟩
          · rw [HEN.out]; simp only [GRef15Result.val_eq]; rfl
          · exact Below_putCells (a := ⟨w.heap.size + 1, 0, none⟩) HBN.out (by show w.heap.size ≤ w.heap.size + 1; omega) _
        · have HVK := Lib.hid hvk
          have nf := frozen_of_free (a := ⟨w.heap.size + 1 + 1, 2, none⟩) q10
          clear HW1 hvk
          go_upto_region 17 with fail
          have c5 : Chg (fun q => q = w.heap.size + 1 + 1) wn (wn.setCell ⟨w.heap.size + 1 + 1, 2, none⟩ (.int .i64 x.reserve)) := ⟨rfl, rfl, rfl, by simp, fun k _ hn => Below.heap_setCell _ _ _ _ hn⟩
          have m5 : get? GRef15Result (wn.setCell ⟨w.heap.size + 1 + 1, 2, none⟩ (.int .i64 x.reserve)) ⟨w.heap.size + 1 + 1, 0, none⟩ = some ⟨x.name, cb.client, x.reserve⟩ := get?_poke m4 rfl
          have q11 : blkFree (wn.setCell ⟨w.heap.size + 1 + 1, 2, none⟩ (.int .i64 x.reserve)) (w.heap.size + 1 + 1) = true := by rw [blkFree_setCell]; exact q10
          have c6 := c3.tr c5
          have n6 := c5.cell n4 hO3
          have n7 := c5.get n0 (by show ¬ (w.heap.size + 1 = w.heap.size + 1 + 1); omega)
          have n8 : blkFree (wn.setCell ⟨w.heap.size + 1 + 1, 2, none⟩ (.int .i64 x.reserve)) (w.heap.size + 1) = true := by rw [blkFree_setCell]; exact n5
          have HBM := Lib.hid (Chg.bel2 HBN.out c5 (fun q hq => by omega))
          clear nq nf m4 q10 c3 c5 n1 n2 n4 n0 n5 HBN
          generalize wn.setCell ⟨w.heap.size + 1 + 1, 2, none⟩ (.int .i64 x.reserve) = wm at m5 q11 c6 n6 n7 n8 HBM ⊢
          rcases hsec with rfl | ⟨j, dj, rfl, hjd⟩
          · have HEN := Lib.hid (HW2.out HVK.out rfl)
            clear HW2 HW3 c6
            go_wp2_with fail
            have hgn : get? GRef15Result _ ⟨w.heap.size + 1, 0, none⟩ = some (⟨x.name, cb.client, x.reserve⟩ : GRef15Result) := get?_put ⟨x.name, cb.client, x.reserve⟩ n7
            refine bodyPost_ret (results_cell (x := (⟨x.name, cb.client, x.reserve⟩ : GRef15Result)) rfl rfl ag190 sz190 hgn) rfl ⟨?_, ?_⟩
            · rw [HEN.out]; simp only [GRef15Result.val_eq]; rfl
            · exact Below_putCells (a := ⟨w.heap.size + 1, 0, none⟩) HBM.out (by show w.heap.size ≤ w.heap.size + 1; omega) _
          · have HEN := Lib.hid (HW3.out HVK.out j dj rfl hjd)
            have hjl : j < k := by have := (List.getElem?_eq_some_iff.1 hjd).1; rw [HL.out] at this; exact this
            obtain ⟨ad2, y, hA, hadb, hy, hgy⟩ := (HX.out.stepB (HB2.out.trans HB.out)).at_ (k := j) hjl
            injection hA with hA; subst hA
            rw [List.getElem?_map, hjd] at hy
            injection hy with hy
            subst hy
            change get? GRef15Bid wr (ad.add (j * 2)) = some (rb dj) at hgy
            have fa := cell_off (by omega) (GRef15Bid.at_amount hgy)
            rw [add_block] at fa
            have e1 : (rb dj).amount = dj.amount := rfl
            rw [e1] at fa
            have hadb2 : ad.block ≠ w.heap.size + 1 + 1 := by
              have h9 := HX.out.block_lt (by omega) rfl
              omega
            have fb : wm.cell? ⟨ad.block, (ad.add (j * 2)).off + 1, none⟩ = some (.int .i64 dj.amount) := c6.cell fa hadb2
            have hj0 : (0 : Int) ≤ (j : Int) := by omega
            have hj1 : (j : Int) < (k : Int) := by omega
            have nq : wm.cell? ⟨w.heap.size + 1 + 1, 2, none⟩ = some (.int .i64 x.reserve) := by have := cell_off (by omega) (GRef15Result.at_price m5); simpa using this
            have nf := frozen_of_free (a := ⟨w.heap.size + 1 + 1, 2, none⟩) q11
            have hsz2 : w.heap.size + 3 ≤ wm.heap.size := by have := c6.size; have := HB.out.size; have := HZ2.out; omega
            clear HW2 HW3 c6 hgy hjd fa e1
            go_upto_region 19 with fail
            have c7 : Chg (fun q => q = w.heap.size + 1 + 1) wm (wm.setCell ⟨w.heap.size + 1 + 1, 2, none⟩ (.int .i64 dj.amount)) := ⟨rfl, rfl, rfl, by simp, fun k _ hn => Below.heap_setCell _ _ _ _ hn⟩
            have m6 : get? GRef15Result (wm.setCell ⟨w.heap.size + 1 + 1, 2, none⟩ (.int .i64 dj.amount)) ⟨w.heap.size + 1 + 1, 0, none⟩ = some ⟨x.name, cb.client, dj.amount⟩ := get?_poke m5 rfl
            have n9 := c7.get n7 (by show ¬ (w.heap.size + 1 = w.heap.size + 1 + 1); omega)
            have n10 : blkFree (wm.setCell ⟨w.heap.size + 1 + 1, 2, none⟩ (.int .i64 dj.amount)) (w.heap.size + 1) = true := by rw [blkFree_setCell]; exact n8
            have HBO := Lib.hid (Chg.bel2 HBM.out c7 (fun q hq => by omega))
            clear nq nf m5 q11 c7 n6 n7 n8 fb HBM
            generalize wm.setCell ⟨w.heap.size + 1 + 1, 2, none⟩ (.int .i64 dj.amount) = wo at m6 n9 n10 HBO ⊢
            go_wp2_with fail
            have hgn : get? GRef15Result _ ⟨w.heap.size + 1, 0, none⟩ = some (⟨x.name, cb.client, dj.amount⟩ : GRef15Result) := get?_put ⟨x.name, cb.client, dj.amount⟩ n9
            refine bodyPost_ret (results_cell (x := (⟨x.name, cb.client, dj.amount⟩ : GRef15Result)) rfl rfl ag190 sz190 hgn) rfl ⟨?_, ?_⟩
            · rw [HEN.out]; simp only [GRef15Result.val_eq]; rfl
            · exact Below_putCells (a := ⟨w.heap.size + 1, 0, none⟩) HBO.out (by show w.heap.size ≤ w.heap.size + 1; omega) _
end Go.Proofs.Yteockodnfempfaa
/- A list with one more in its midst: appending to a full list. Conditions: those named in each theorem. -/
namespace Go.Gv
open Go Go.RowKit
section
variable {α : Type} [Enc α] {w : World} {P : Program}
theorem gAppend_full {B B2 : Nat} {e t : TypeId} {xs ys : List α} {by8 : Nat} (E : ElemI P t e α by8) {A : Option Addr} {k : Nat} (hxs : Sl α w B A k xs) {ad : Addr} {m c : Nat} (hys : Sl α w B2 (some ad) m ys) (hm : 0 < m) (h63 : k + m ≤ maxLen) (hbytes : (k + m) * by8 ≤ 140737488355328) (ty : TypeId) :
    ∃ v' w', (gAppend #[t, t] ty #[.slice A k k, .slice (some ad) m c]).run P w = .ok v' w' ∧ OwnS w' w.heap.size e v' (xs ++ ys) ∧ w.grownBy w' none := by
  have hk := hxs.1
  have hml := hys.1
  cases A with
  | none =>
    have hk0 : k = 0 := by
      rcases Nat.eq_zero_or_pos k with h0 | h0
      · exact h0
      · obtain ⟨ad, h, _⟩ := hxs.2 h0; cases h
    subst hk0
    have : xs = [] := List.eq_nil_of_length_eq_zero hk
    subst this
    obtain ⟨v', w', h1, h2, h3, _⟩ := gAppend_S (P := P) E (OwnS.nil w w.heap.size e) hys (by simp only [List.length_nil]; exact h63) (by simp only [List.length_nil]; exact hbytes) (Nat.le_refl _) ty (c := c)
    exact ⟨v', w', h1, h2, h3⟩
  | some b =>
    obtain ⟨i, hi, hx⟩ := Option.map_eq_some_iff.1 E.ex
    simp only [Prod.mk.injEq, Option.map_eq_some_iff] at hx
    obtain ⟨h1, h2, z, h3, h4⟩ := hx
    have holds : ∀ j u, (xs.flatMap Enc.enc)[j]? = some u → w.cell? (b.add j) = some u := by
      intro j u hu
      rcases Nat.eq_zero_or_pos k with h0 | h0
      · subst h0
        have : xs = [] := List.eq_nil_of_length_eq_zero hk
        subst this; simp at hu
      · obtain ⟨ad', h, hc⟩ := hxs.flat h0
        injection h with h; subst h
        exact hc j u hu
    have hnews : ∀ j u, (ys.flatMap Enc.enc)[j]? = some u → w.cell? (ad.add j) = some u := by
      intro j u hu
      obtain ⟨ad', h, hc⟩ := hys.flat hm
      injection h with h; subst h
      exact hc j u hu
    obtain ⟨v', w', hrun, g1, g2⟩ := run_append_arg_grows (P := P) w t ty e i z (Enc.n α) by8 E.ht hi h3 h1 h2 h4 Enc.pos b k k (xs.flatMap Enc.enc) (by rw [flat_len, hk]) holds ad m c (ys.flatMap Enc.enc) (by rw [flat_len, hml]) hnews (by omega) h63 hbytes
    refine ⟨v', w', by unfold gAppend; exact hrun, ?_, g2⟩
    unfold OwnS
    rw [List.flatMap_append, List.length_append, hk, hml]
    exact g1
theorem gAppend_zero {e t : TypeId} {by8 : Nat} (E : ElemI P t e α by8) (A A2 : Option Addr) {k c c2 : Nat} (hkc : k ≤ c) (ty : TypeId) : (gAppend #[t, t] ty #[.slice A k c, .slice A2 0 c2]).run P w = .ok (.slice A k c) w := by
  obtain ⟨i, hi, hx⟩ := Option.map_eq_some_iff.1 E.ex
  unfold gAppend
  cases A <;> cases A2 <;> simp [Builtin.append_, run_underlying E.ht, sizeOf, typeInfo, hi, Builtin.lenOf, Builtin.firstCells, hkc, storeCells, loadCells, loadCellsFrom]
/-- Appending to a full list: the old one stays as it is. -/
theorem gAppend_cut {e t : TypeId} {xs ys : List α} {by8 : Nat} (E : ElemI P t e α by8) {A A2 : Option Addr} {k m c2 : Nat} (hxs : Sl α w w.heap.size A k xs) (hys : Sl α w w.heap.size A2 m ys) (h63 : k + m ≤ maxLen) (hbytes : (k + m) * by8 ≤ 140737488355328) (ty : TypeId) :
    ∃ A' c' w', (gAppend #[t, t] ty #[.slice A k k, .slice A2 m c2]).run P w = .ok (.slice A' (k + m) c') w' ∧ Sl α w' w'.heap.size A' (k + m) (xs ++ ys) ∧ Below w.heap.size w w' ∧ k + m ≤ c' ∧ c' ≤ maxLen := by
  rcases Nat.eq_zero_or_pos m with h0 | h0
  · subst h0
    have : ys = [] := List.eq_nil_of_length_eq_zero hys.1
    subst this
    exact ⟨A, k, w, gAppend_zero E A A2 (Nat.le_refl _) ty, by simpa using hxs, Below.refl _ _, Nat.le_refl _, by omega⟩
  · obtain ⟨ad, e2, _⟩ := hys.2 h0
    subst e2
    obtain ⟨v', w', h1, h2, h3⟩ := gAppend_full E hxs hys h0 h63 hbytes ty (c := c2)
    obtain ⟨A', c', rfl, h4, h5, h6, _⟩ := OwnS.shape h2
    have hl : (xs ++ ys).length = k + m := by rw [List.length_append, hxs.1, hys.1]
    rw [hl] at h1 h4 h5
    exact ⟨A', c', w', h1, h4, ⟨h3.os, h3.tape, h3.output, h3.size, fun k hk => h3.block k hk (by simp)⟩, h5, h6⟩
end
end Go.Gv
