/- What the frames of this seat's laws share: the listed variables, the world of the witness, the wrap that hands the world's shape on. Conditions: those named in each theorem. -/
import Derived.Test.YteockodnfempfaaGreatDoorP1
import Derived.Shelf.Strings.SplitShaped
import Derived.Shelf.Strconv.Itoa4
import Derived.Test.YteockodnfempfaaGreatDoorProg
import Derived.Test.YteockodnfempfaaGreatDoorTie
import Derived.Handed
import Derived.Lay
import Derived.LaidMore
import Derived.Stop.Joined
import Derived.Stop.LaidErr
import Derived.Lib.LaidTab
import Derived.SevenTiedAt
/- The struct types of this seat as Lean types, with the runs of single operations over them. Conditions: those named in each theorem. -/
namespace Go.Proofs.YteockodnfempfaaGreatDoor
open Go Go.RowKit Go.Gv
set_option linter.unusedSimpArgs false

theorem na4 : aggT Tryz.prog 4 = false := by kernel_rfl
theorem us4 : (Tryz.prog.underlying 4).isSome = true := by kernel_rfl
theorem uk4 : Tryz.prog.underlying 4 = some .bool := by kernel_rfl
theorem na9 : aggT Tryz.prog 9 = false := by kernel_rfl
theorem us9 : (Tryz.prog.underlying 9).isSome = true := by kernel_rfl
theorem uk9 : Tryz.prog.underlying 9 = some .string := by kernel_rfl
theorem na102 : aggT Tryz.prog 102 = false := by kernel_rfl
theorem us102 : (Tryz.prog.underlying 102).isSome = true := by kernel_rfl
theorem na103 : aggT Tryz.prog 103 = false := by kernel_rfl
theorem us103 : (Tryz.prog.underlying 103).isSome = true := by kernel_rfl

/-! ### gavel/auction.Result -/
structure GAuctionResult where
  name : ByteArray
  winner : Int
  price : Int
deriving DecidableEq
instance : Inhabited GAuctionResult := ⟨⟨ByteArray.empty, 0, 0⟩⟩
def GAuctionResult.enc (x : GAuctionResult) : List Value := [(.string x.name)] ++ ([(.int .i64 x.winner)] ++ ([(.int .i64 x.price)]))
theorem GAuctionResult.enc_len (x : GAuctionResult) : x.enc.length = 3 := by simp [GAuctionResult.enc]
theorem GAuctionResult.enc_one (x : GAuctionResult) : ∀ u ∈ x.enc, u.oneCell' = true := by
  intro u hu
  simp only [GAuctionResult.enc, List.mem_append, List.mem_singleton] at hu
  rcases hu with hu | hu | hu
  · subst hu; rfl
  · subst hu; rfl
  · subst hu; rfl
theorem GAuctionResult.enc_inj (x y : GAuctionResult) (h : x.enc = y.enc) : x = y := by
  obtain ⟨a0, a1, a2⟩ := x
  obtain ⟨b0, b1, b2⟩ := y
  simp only [GAuctionResult.enc] at h
  obtain ⟨p0, q0⟩ := List.append_inj h (rfl)
  have e0 : a0 = b0 := by have := List.head_eq_of_cons_eq p0; injection this
  obtain ⟨p1, q1⟩ := List.append_inj q0 (rfl)
  have e1 : a1 = b1 := by have := List.head_eq_of_cons_eq p1; injection this
  have e2 : a2 = b2 := by have := List.head_eq_of_cons_eq q1; injection this
  rw [e0, e1, e2]
instance : Enc GAuctionResult where
  n := 3
  enc := GAuctionResult.enc
  pos := by omega
  len := GAuctionResult.enc_len
  one := GAuctionResult.enc_one
  inj := GAuctionResult.enc_inj
@[go_sem] theorem GAuctionResult.n_eq : Enc.n GAuctionResult = 3 := rfl
@[irreducible] def GAuctionResult.val (x : GAuctionResult) : Value := .agg x.enc.toArray
theorem GAuctionResult.val_eq (x : GAuctionResult) : GAuctionResult.val x = .agg (Enc.enc x).toArray := by unfold GAuctionResult.val; rfl
theorem GAuctionResult.ext_all (x y : GAuctionResult) : x = y ↔ x.name = y.name ∧ x.winner = y.winner ∧ x.price = y.price := by
  constructor
  · intro h; cases h; simp
  · intro h; cases x; cases y; simp_all
theorem uu104 : Tryz.prog.underlying 104 = some (.struct (Tryz.prog.fieldsOf 104)) := by kernel_rfl
theorem st104 : Tryz.prog.stoodInHeld 104 = false := by kernel_rfl
theorem fl104 : fieldTO Tryz.prog 104 = [(9, 0), (3, 1), (3, 2)] := by kernel_rfl
theorem nb104 : noBlank Tryz.prog 104 = true := by kernel_rfl
@[go_sem ↓ high] theorem xl_GAuctionResult (ρ : Operand → Value) (dst : Option Tmp) (x : Operand) (ty : TypeId) (pos : String) (after : Array Edge) (guard : Option (Nat × Bool)) : execOp ρ { dst, op := .load 104 x, type := ty, pos, after, guard } = (do pure (.value (← gLoad 104 (ρ x)))) := ex_load ..
@[go_sem ↓ high] theorem xs_GAuctionResult (ρ : Operand → Value) (dst : Option Tmp) (x y : Operand) (ty : TypeId) (pos : String) (after : Array Edge) (guard : Option (Nat × Bool)) : execOp ρ { dst, op := .store 104 x y, type := ty, pos, after, guard } = (do gStore 104 (ρ x) (ρ y); pure .skip) := ex_store ..
@[go_sem ↓ high] theorem xb_GAuctionResult (ρ : Operand → Value) (dst : Option Tmp) (x : Operand) (ty : TypeId) (pos : String) (after : Array Edge) (guard : Option (Nat × Bool)) : execOp ρ { dst, op := .box 104 x, type := ty, pos, after, guard } = (do pure (.value (← gBox 104 (ρ x)))) := ex_box ..
@[go_sem ↓ high] theorem xa_GAuctionResult (ρ : Operand → Value) (dst : Option Tmp) (ty : TypeId) (pos : String) (after : Array Edge) (guard : Option (Nat × Bool)) : execOp ρ { dst, op := .alloc 104, type := ty, pos, after, guard } = (do pure (.value (← gAlloc 104))) := ex_alloc ..
theorem ag104 : aggT Tryz.prog 104 = true := by kernel_rfl
theorem sz104 : sizeT Tryz.prog 104 = 3 := by kernel_rfl
section
variable (w : World)
@[go_sem ↓ high] theorem ld_GAuctionResult (a : Addr) : (gLoad 104 (.pointer (some a))).run Tryz.prog w = ofOpt ((get? GAuctionResult w a).map GAuctionResult.val) w (noLoad Tryz.prog 104 a w) := by
  unfold gLoad; exact run_loadAt_opt ag104 sz104 GAuctionResult.val GAuctionResult.val_eq
@[go_sem ↓ high] theorem st_GAuctionResult (a : Addr) (x : GAuctionResult) : (gStore 104 (.pointer (some a)) (GAuctionResult.val x)).run Tryz.prog w = okU' ((get? GAuctionResult w a).isSome && blkFree w a.block) (World.putCells w a (GAuctionResult.enc x)) (noStore Tryz.prog 104 (.pointer (some a)) (GAuctionResult.val x) w) := run_gStore_any sz104 GAuctionResult.val GAuctionResult.val_eq w a x
@[go_sem ↓ high] theorem bx_GAuctionResult (x : GAuctionResult) : (gBox 104 (GAuctionResult.val x)).run Tryz.prog w = .ok (.pointer (some ⟨w.heap.size, 0, none⟩)) (w.alloc (.cells (GAuctionResult.enc x).toArray 104)) := by
  rw [GAuctionResult.val_eq]; exact run_gBox _ w
end
theorem lk104_0 (x : GAuctionResult) : x.enc[0]? = some (.string x.name) := by
  simp [GAuctionResult.enc, List.getElem?_append]
theorem pt104_0 (w : World) (x : GAuctionResult) : (part 9 x.enc.toArray 0).run Tryz.prog w = .ok (.string x.name) w := run_part_one na9 us9 (lk104_0 x)
@[go_sem ↓ high] theorem fd104_0 (w : World) (x : GAuctionResult) : (gField 104 (GAuctionResult.val x) 0).run Tryz.prog w = .ok (.string x.name) w := by
  rw [GAuctionResult.val_eq]
  exact run_gField w uu104 (by rw [fl104]; rfl) (pt104_0 w x)
theorem lk104_1 (x : GAuctionResult) : x.enc[1]? = some (.int .i64 x.winner) := by
  simp [GAuctionResult.enc, List.getElem?_append]
theorem pt104_1 (w : World) (x : GAuctionResult) : (part 3 x.enc.toArray 1).run Tryz.prog w = .ok (.int .i64 x.winner) w := run_part_one na3 us3 (lk104_1 x)
@[go_sem ↓ high] theorem fd104_1 (w : World) (x : GAuctionResult) : (gField 104 (GAuctionResult.val x) 1).run Tryz.prog w = .ok (.int .i64 x.winner) w := by
  rw [GAuctionResult.val_eq]
  exact run_gField w uu104 (by rw [fl104]; rfl) (pt104_1 w x)
theorem lk104_2 (x : GAuctionResult) : x.enc[2]? = some (.int .i64 x.price) := by
  simp [GAuctionResult.enc, List.getElem?_append]
theorem pt104_2 (w : World) (x : GAuctionResult) : (part 3 x.enc.toArray 2).run Tryz.prog w = .ok (.int .i64 x.price) w := run_part_one na3 us3 (lk104_2 x)
@[go_sem ↓ high] theorem fd104_2 (w : World) (x : GAuctionResult) : (gField 104 (GAuctionResult.val x) 2).run Tryz.prog w = .ok (.int .i64 x.price) w := by
  rw [GAuctionResult.val_eq]
  exact run_gField w uu104 (by rw [fl104]; rfl) (pt104_2 w x)
@[go_sem ↓ high] theorem xf_GAuctionResult (ρ : Operand → Value) (dst : Option Tmp) (x : Operand) (i : Nat) (ty : TypeId) (pos : String) (after : Array Edge) (guard : Option (Nat × Bool)) : execOp ρ { dst, op := .field 104 x i, type := ty, pos, after, guard } = (do pure (.value (← gField 104 (ρ x) i))) := ex_field ..
theorem zr104 : zeroT Tryz.prog 104 = some (.agg (GAuctionResult.enc default).toArray) := by kernel_rfl
@[go_sem ↓ high] theorem al_GAuctionResult (w : World) : (gAlloc 104).run Tryz.prog w = .ok (.pointer (some ⟨w.heap.size, 0, none⟩)) (w.alloc (.cells (GAuctionResult.enc default).toArray 104)) := run_zero_alloc zr104 w
@[go_sem] theorem pc_GAuctionResult (w : World) (n : Nat) (x z : GAuctionResult) (hn : n = w.heap.size) : World.putCells (w.alloc (.cells (GAuctionResult.enc z).toArray 104)) ⟨n, 0, none⟩ (GAuctionResult.enc x) = w.alloc (.cells (GAuctionResult.enc x).toArray 104) := putCells_top x z hn
theorem GAuctionResult.at_name {w : World} {a : Addr} {x : GAuctionResult} (h : get? GAuctionResult w a = some x) : w.cell? (a.add 0) = some (.string x.name) := (get?_iff.1 h) _ _ (lk104_0 x)
theorem GAuctionResult.at_winner {w : World} {a : Addr} {x : GAuctionResult} (h : get? GAuctionResult w a = some x) : w.cell? (a.add 1) = some (.int .i64 x.winner) := (get?_iff.1 h) _ _ (lk104_1 x)
theorem GAuctionResult.at_price {w : World} {a : Addr} {x : GAuctionResult} (h : get? GAuctionResult w a = some x) : w.cell? (a.add 2) = some (.int .i64 x.price) := (get?_iff.1 h) _ _ (lk104_2 x)
@[go_sem] theorem nl104_0 (x : GAuctionResult) : x.enc[0]? = some (.string x.name) := by
  have h := (GAuctionResult.at_name (get?_new (w := (default : World)) 104 x))
  simp only [Addr.add_lit, Nat.zero_add, Nat.reduceAdd, World.cell?_alloc_new, List.getElem?_toArray] at h
  exact h
@[go_sem] theorem nl104_1 (x : GAuctionResult) : x.enc[1]? = some (.int .i64 x.winner) := by
  have h := (GAuctionResult.at_winner (get?_new (w := (default : World)) 104 x))
  simp only [Addr.add_lit, Nat.zero_add, Nat.reduceAdd, World.cell?_alloc_new, List.getElem?_toArray] at h
  exact h
@[go_sem] theorem nl104_2 (x : GAuctionResult) : x.enc[2]? = some (.int .i64 x.price) := by
  have h := (GAuctionResult.at_price (get?_new (w := (default : World)) 104 x))
  simp only [Addr.add_lit, Nat.zero_add, Nat.reduceAdd, World.cell?_alloc_new, List.getElem?_toArray] at h
  exact h
@[go_sem] theorem nw104 (w : World) (n : Nat) (x : GAuctionResult) (hn : n = w.heap.size) : get? GAuctionResult (w.alloc (.cells (GAuctionResult.enc x).toArray 104)) ⟨n, 0, none⟩ = some x := by
  subst hn; exact get?_new 104 x
theorem pl104 : ((Tryz.prog.fieldsOf 104).toList.mapM fun f => (Tryz.prog.info? f.type).map fun i => (f.offset, i.size)) = some [(0, 1), (1, 1), (2, 1)] := by kernel_rfl
theorem fs104_0 (x : GAuctionResult) (v : ByteArray) (rest : List (Nat × Value)) : Instr.fill (fun i => ([(0, 1), (1, 1), (2, 1)] : List (Nat × Nat))[i]?) x.enc.toArray ((0, (.string v)) :: rest) = Instr.fill (fun i => ([(0, 1), (1, 1), (2, 1)] : List (Nat × Nat))[i]?) ({ x with name := v } : GAuctionResult).enc.toArray rest := by
  have h := fill_seg [(0, 1), (1, 1), (2, 1)] 0 0 1 rfl (([] : List Value)) ([(.string x.name)]) ([(.int .i64 x.winner)] ++ ([(.int .i64 x.price)] ++ (([] : List Value)))) ([(.string v)]) (.string v) rest (rfl) (by simp) (by simp) (by simp)
  have e1 : x.enc = (([] : List Value)) ++ ([(.string x.name)] ++ ([(.int .i64 x.winner)] ++ ([(.int .i64 x.price)] ++ (([] : List Value))))) := by simp [GAuctionResult.enc]
  have e2 : ({ x with name := v } : GAuctionResult).enc = (([] : List Value)) ++ ([(.string v)] ++ ([(.int .i64 x.winner)] ++ ([(.int .i64 x.price)] ++ (([] : List Value))))) := by simp [GAuctionResult.enc]
  rw [e1, e2]; exact h
theorem fs104_1 (x : GAuctionResult) (v : Int) (rest : List (Nat × Value)) : Instr.fill (fun i => ([(0, 1), (1, 1), (2, 1)] : List (Nat × Nat))[i]?) x.enc.toArray ((1, (.int .i64 v)) :: rest) = Instr.fill (fun i => ([(0, 1), (1, 1), (2, 1)] : List (Nat × Nat))[i]?) ({ x with winner := v } : GAuctionResult).enc.toArray rest := by
  have h := fill_seg [(0, 1), (1, 1), (2, 1)] 1 1 1 rfl (([] : List Value) ++ ([(.string x.name)])) ([(.int .i64 x.winner)]) ([(.int .i64 x.price)] ++ (([] : List Value))) ([(.int .i64 v)]) (.int .i64 v) rest (rfl) (by simp) (by simp) (by simp)
  have e1 : x.enc = (([] : List Value) ++ ([(.string x.name)])) ++ ([(.int .i64 x.winner)] ++ ([(.int .i64 x.price)] ++ (([] : List Value)))) := by simp [GAuctionResult.enc]
  have e2 : ({ x with winner := v } : GAuctionResult).enc = (([] : List Value) ++ ([(.string x.name)])) ++ ([(.int .i64 v)] ++ ([(.int .i64 x.price)] ++ (([] : List Value)))) := by simp [GAuctionResult.enc]
  rw [e1, e2]; exact h
theorem fs104_2 (x : GAuctionResult) (v : Int) (rest : List (Nat × Value)) : Instr.fill (fun i => ([(0, 1), (1, 1), (2, 1)] : List (Nat × Nat))[i]?) x.enc.toArray ((2, (.int .i64 v)) :: rest) = Instr.fill (fun i => ([(0, 1), (1, 1), (2, 1)] : List (Nat × Nat))[i]?) ({ x with price := v } : GAuctionResult).enc.toArray rest := by
  have h := fill_seg [(0, 1), (1, 1), (2, 1)] 2 2 1 rfl (([] : List Value) ++ ([(.string x.name)] ++ ([(.int .i64 x.winner)]))) ([(.int .i64 x.price)]) (([] : List Value)) ([(.int .i64 v)]) (.int .i64 v) rest (rfl) (by simp) (by simp) (by simp)
  have e1 : x.enc = (([] : List Value) ++ ([(.string x.name)] ++ ([(.int .i64 x.winner)]))) ++ ([(.int .i64 x.price)] ++ (([] : List Value))) := by simp [GAuctionResult.enc]
  have e2 : ({ x with price := v } : GAuctionResult).enc = (([] : List Value) ++ ([(.string x.name)] ++ ([(.int .i64 x.winner)]))) ++ ([(.int .i64 v)] ++ (([] : List Value))) := by simp [GAuctionResult.enc]
  rw [e1, e2]; exact h
@[go_sem ↓ high] theorem xd_GAuctionResult (ρ : Operand → Value) (dst : Option Tmp) (ps : Array (Nat × Operand)) (ty : TypeId) (pos : String) (after : Array Edge) (guard : Option (Nat × Bool)) : execOp ρ { dst, op := .build 104 ps, type := ty, pos, after, guard } = (do pure (.value (← gBuild 104 (ps.map fun (i, x) => (i, ρ x))))) := ex_build ..
@[go_sem ↓ high] theorem bd104_0 (w : World) (v0 : ByteArray) (v1 : Int) : (gBuild 104 #[(0, (.string v0)), (1, (.int .i64 v1))]).run Tryz.prog w = .ok (GAuctionResult.val ⟨v0, v1, 0⟩) w := by
  rw [GAuctionResult.val_eq]
  refine run_gBuild_of uu104 zr104 pl104 ?_ w
  show Instr.fill _ (GAuctionResult.enc default).toArray [(0, (.string v0)), (1, (.int .i64 v1))] = _
  rw [fs104_0, fs104_1]; rfl
@[go_sem ↓ high] theorem bd104_1 (w : World) (v0 : ByteArray) (v1 : Int) (v2 : Int) : (gBuild 104 #[(0, (.string v0)), (1, (.int .i64 v1)), (2, (.int .i64 v2))]).run Tryz.prog w = .ok (GAuctionResult.val ⟨v0, v1, v2⟩) w := by
  rw [GAuctionResult.val_eq]
  refine run_gBuild_of uu104 zr104 pl104 ?_ w
  show Instr.fill _ (GAuctionResult.enc default).toArray [(0, (.string v0)), (1, (.int .i64 v1)), (2, (.int .i64 v2))] = _
  rw [fs104_0, fs104_1, fs104_2]; rfl
theorem eq_GAuctionResult (w : World) (d : Nat) (x y : GAuctionResult) : (Op.equalIn (d + 2) 104 (GAuctionResult.val x) (GAuctionResult.val y)).run Tryz.prog w = .ok (decide (x = y)) w := by
  have q0 : ∀ a b, (Op.equalIn (d + 1) 9 (.string a) (.string b)).run Tryz.prog w = .ok (decide (a = b)) w := fun a b => by rw [run_equalIn_string w (d + 0) 9 a b uk9, bytes_beq]
  have q1 : ∀ a b, (Op.equalIn (d + 1) 3 (.int .i64 a) (.int .i64 b)).run Tryz.prog w = .ok (decide (a = b)) w := fun a b => by rw [run_equalIn_int w (d + 0) 3 .i64 .i64 a b uk3]; congr 1
  have q2 : ∀ a b, (Op.equalIn (d + 1) 3 (.int .i64 a) (.int .i64 b)).run Tryz.prog w = .ok (decide (a = b)) w := fun a b => by rw [run_equalIn_int w (d + 0) 3 .i64 .i64 a b uk3]; congr 1
  have h := run_equalIn_fields (d + 1) x.enc.toArray y.enc.toArray w uu104 st104 nb104
  rw [fl104] at h
  unfold GAuctionResult.val
  refine h.trans ?_
  clear h
  simp only [eqFs, Sem.run_bind, pt104_0, pt104_1, pt104_2, q0, q1, q2, Result.andThen_ok, Sem.run_ite, Sem.run_pure]
  have he : decide (x = y) = (decide (x.name = y.name) && (decide (x.winner = y.winner) && (decide (x.price = y.price)))) := by
    rw [Bool.eq_iff_iff]; simp only [Bool.and_eq_true, decide_eq_true_eq]; exact GAuctionResult.ext_all x y
  rw [he]
  generalize decide (x.name = y.name) = c0; generalize decide (x.winner = y.winner) = c1; generalize decide (x.price = y.price) = c2
  cases c0 <;> cases c1 <;> cases c2 <;> simp
@[go_sem ↓ high] theorem xq_GAuctionResult (ρ : Operand → Value) (dst : Option Tmp) (x y : Operand) (ty yt : TypeId) (pos : String) (after : Array Edge) (guard : Option (Nat × Bool)) : execOp ρ { dst, op := .binOp .eql 104 x y yt, type := ty, pos, after, guard } = (do pure (.value (← gBin .eql 104 x y (ρ x) (ρ y)))) := ex_eql ..
@[go_sem ↓ high] theorem xn_GAuctionResult (ρ : Operand → Value) (dst : Option Tmp) (x y : Operand) (ty yt : TypeId) (pos : String) (after : Array Edge) (guard : Option (Nat × Bool)) : execOp ρ { dst, op := .binOp .neq 104 x y yt, type := ty, pos, after, guard } = (do pure (.value (← gBin .neq 104 x y (ρ x) (ρ y)))) := ex_neq ..
theorem eg_GAuctionResult : Tryz.prog.eqGuardType Tryz.prog.depth 104 = false := by kernel_rfl
@[go_sem ↓ high] theorem eql_GAuctionResult (w : World) (ox oy : Operand) (x y : GAuctionResult) : (gBin .eql 104 ox oy (GAuctionResult.val x) (GAuctionResult.val y)).run Tryz.prog w = .ok (.bool (decide (x = y))) w := by
  have h2 := eq_GAuctionResult w 9998 x y
  rw [GAuctionResult.val_eq, GAuctionResult.val_eq] at h2 ⊢
  have h := run_eqGuard_agg (P := Tryz.prog) w .eql 104 ox oy (Enc.enc x).toArray (Enc.enc y).toArray eg_GAuctionResult
  unfold gBin
  simp only [Sem.run_bind, h, Result.andThen_ok, run_eql_struct, h2]
@[go_sem ↓ high] theorem neq_GAuctionResult (w : World) (ox oy : Operand) (x y : GAuctionResult) : (gBin .neq 104 ox oy (GAuctionResult.val x) (GAuctionResult.val y)).run Tryz.prog w = .ok (.bool (!decide (x = y))) w := by
  have h2 := eq_GAuctionResult w 9998 x y
  rw [GAuctionResult.val_eq, GAuctionResult.val_eq] at h2 ⊢
  have h := run_eqGuard_agg (P := Tryz.prog) w .neq 104 ox oy (Enc.enc x).toArray (Enc.enc y).toArray eg_GAuctionResult
  unfold gBin
  simp only [Sem.run_bind, h, Result.andThen_ok, run_neq_struct, h2]

/-! ### gavel/auction.sale -/
structure GAuctionSale where
  name : ByteArray
  vickrey : Bool
  reserve : Int
  close : Int
  bids : Hdr
  settled : Bool
  result : GAuctionResult
deriving DecidableEq
instance : Inhabited GAuctionSale := ⟨⟨ByteArray.empty, false, 0, 0, default, false, default⟩⟩
def GAuctionSale.enc (x : GAuctionSale) : List Value := [(.string x.name)] ++ ([(.bool x.vickrey)] ++ ([(.int .i64 x.reserve)] ++ ([(.int .u64 x.close)] ++ ([(x.bids.val)] ++ ([(.bool x.settled)] ++ (x.result.enc))))))
theorem GAuctionSale.enc_len (x : GAuctionSale) : x.enc.length = 9 := by simp [GAuctionSale.enc, GAuctionResult.enc_len]
theorem GAuctionSale.enc_one (x : GAuctionSale) : ∀ u ∈ x.enc, u.oneCell' = true := by
  intro u hu
  simp only [GAuctionSale.enc, List.mem_append, List.mem_singleton] at hu
  rcases hu with hu | hu | hu | hu | hu | hu | hu
  · subst hu; rfl
  · subst hu; rfl
  · subst hu; rfl
  · subst hu; rfl
  · subst hu; rfl
  · subst hu; rfl
  · exact Enc.one (α := GAuctionResult) _ _ hu
theorem GAuctionSale.enc_inj (x y : GAuctionSale) (h : x.enc = y.enc) : x = y := by
  obtain ⟨a0, a1, a2, a3, a4, a5, a6⟩ := x
  obtain ⟨b0, b1, b2, b3, b4, b5, b6⟩ := y
  simp only [GAuctionSale.enc] at h
  obtain ⟨p0, q0⟩ := List.append_inj h (rfl)
  have e0 : a0 = b0 := by have := List.head_eq_of_cons_eq p0; injection this
  obtain ⟨p1, q1⟩ := List.append_inj q0 (rfl)
  have e1 : a1 = b1 := by have := List.head_eq_of_cons_eq p1; injection this
  obtain ⟨p2, q2⟩ := List.append_inj q1 (rfl)
  have e2 : a2 = b2 := by have := List.head_eq_of_cons_eq p2; injection this
  obtain ⟨p3, q3⟩ := List.append_inj q2 (rfl)
  have e3 : a3 = b3 := by have := List.head_eq_of_cons_eq p3; injection this
  obtain ⟨p4, q4⟩ := List.append_inj q3 (rfl)
  have e4 : a4 = b4 := Enc.inj (α := Hdr) _ _ p4
  obtain ⟨p5, q5⟩ := List.append_inj q4 (rfl)
  have e5 : a5 = b5 := by have := List.head_eq_of_cons_eq p5; injection this
  have e6 := Enc.inj (α := GAuctionResult) _ _ q5
  rw [e0, e1, e2, e3, e4, e5, e6]
instance : Enc GAuctionSale where
  n := 9
  enc := GAuctionSale.enc
  pos := by omega
  len := GAuctionSale.enc_len
  one := GAuctionSale.enc_one
  inj := GAuctionSale.enc_inj
@[go_sem] theorem GAuctionSale.n_eq : Enc.n GAuctionSale = 9 := rfl
@[irreducible] def GAuctionSale.val (x : GAuctionSale) : Value := .agg x.enc.toArray
theorem GAuctionSale.val_eq (x : GAuctionSale) : GAuctionSale.val x = .agg (Enc.enc x).toArray := by unfold GAuctionSale.val; rfl
theorem GAuctionSale.ext_all (x y : GAuctionSale) : x = y ↔ x.name = y.name ∧ x.vickrey = y.vickrey ∧ x.reserve = y.reserve ∧ x.close = y.close ∧ x.bids = y.bids ∧ x.settled = y.settled ∧ x.result = y.result := by
  constructor
  · intro h; cases h; simp
  · intro h; cases x; cases y; simp_all
theorem uu106 : Tryz.prog.underlying 106 = some (.struct (Tryz.prog.fieldsOf 106)) := by kernel_rfl
theorem st106 : Tryz.prog.stoodInHeld 106 = false := by kernel_rfl
theorem fl106 : fieldTO Tryz.prog 106 = [(9, 0), (4, 1), (3, 2), (26, 3), (103, 4), (4, 5), (104, 6)] := by kernel_rfl
theorem nb106 : noBlank Tryz.prog 106 = true := by kernel_rfl
@[go_sem ↓ high] theorem xl_GAuctionSale (ρ : Operand → Value) (dst : Option Tmp) (x : Operand) (ty : TypeId) (pos : String) (after : Array Edge) (guard : Option (Nat × Bool)) : execOp ρ { dst, op := .load 106 x, type := ty, pos, after, guard } = (do pure (.value (← gLoad 106 (ρ x)))) := ex_load ..
@[go_sem ↓ high] theorem xs_GAuctionSale (ρ : Operand → Value) (dst : Option Tmp) (x y : Operand) (ty : TypeId) (pos : String) (after : Array Edge) (guard : Option (Nat × Bool)) : execOp ρ { dst, op := .store 106 x y, type := ty, pos, after, guard } = (do gStore 106 (ρ x) (ρ y); pure .skip) := ex_store ..
@[go_sem ↓ high] theorem xb_GAuctionSale (ρ : Operand → Value) (dst : Option Tmp) (x : Operand) (ty : TypeId) (pos : String) (after : Array Edge) (guard : Option (Nat × Bool)) : execOp ρ { dst, op := .box 106 x, type := ty, pos, after, guard } = (do pure (.value (← gBox 106 (ρ x)))) := ex_box ..
@[go_sem ↓ high] theorem xa_GAuctionSale (ρ : Operand → Value) (dst : Option Tmp) (ty : TypeId) (pos : String) (after : Array Edge) (guard : Option (Nat × Bool)) : execOp ρ { dst, op := .alloc 106, type := ty, pos, after, guard } = (do pure (.value (← gAlloc 106))) := ex_alloc ..
theorem ag106 : aggT Tryz.prog 106 = true := by kernel_rfl
theorem sz106 : sizeT Tryz.prog 106 = 9 := by kernel_rfl
section
variable (w : World)
@[go_sem ↓ high] theorem ld_GAuctionSale (a : Addr) : (gLoad 106 (.pointer (some a))).run Tryz.prog w = ofOpt ((get? GAuctionSale w a).map GAuctionSale.val) w (noLoad Tryz.prog 106 a w) := by
  unfold gLoad; exact run_loadAt_opt ag106 sz106 GAuctionSale.val GAuctionSale.val_eq
@[go_sem ↓ high] theorem st_GAuctionSale (a : Addr) (x : GAuctionSale) : (gStore 106 (.pointer (some a)) (GAuctionSale.val x)).run Tryz.prog w = okU' ((get? GAuctionSale w a).isSome && blkFree w a.block) (World.putCells w a (GAuctionSale.enc x)) (noStore Tryz.prog 106 (.pointer (some a)) (GAuctionSale.val x) w) := run_gStore_any sz106 GAuctionSale.val GAuctionSale.val_eq w a x
@[go_sem ↓ high] theorem bx_GAuctionSale (x : GAuctionSale) : (gBox 106 (GAuctionSale.val x)).run Tryz.prog w = .ok (.pointer (some ⟨w.heap.size, 0, none⟩)) (w.alloc (.cells (GAuctionSale.enc x).toArray 106)) := by
  rw [GAuctionSale.val_eq]; exact run_gBox _ w
end
theorem lk106_0 (x : GAuctionSale) : x.enc[0]? = some (.string x.name) := by
  simp [GAuctionSale.enc, List.getElem?_append]
theorem pt106_0 (w : World) (x : GAuctionSale) : (part 9 x.enc.toArray 0).run Tryz.prog w = .ok (.string x.name) w := run_part_one na9 us9 (lk106_0 x)
@[go_sem ↓ high] theorem fd106_0 (w : World) (x : GAuctionSale) : (gField 106 (GAuctionSale.val x) 0).run Tryz.prog w = .ok (.string x.name) w := by
  rw [GAuctionSale.val_eq]
  exact run_gField w uu106 (by rw [fl106]; rfl) (pt106_0 w x)
theorem lk106_1 (x : GAuctionSale) : x.enc[1]? = some (.bool x.vickrey) := by
  simp [GAuctionSale.enc, List.getElem?_append]
theorem pt106_1 (w : World) (x : GAuctionSale) : (part 4 x.enc.toArray 1).run Tryz.prog w = .ok (.bool x.vickrey) w := run_part_one na4 us4 (lk106_1 x)
@[go_sem ↓ high] theorem fd106_1 (w : World) (x : GAuctionSale) : (gField 106 (GAuctionSale.val x) 1).run Tryz.prog w = .ok (.bool x.vickrey) w := by
  rw [GAuctionSale.val_eq]
  exact run_gField w uu106 (by rw [fl106]; rfl) (pt106_1 w x)
theorem lk106_2 (x : GAuctionSale) : x.enc[2]? = some (.int .i64 x.reserve) := by
  simp [GAuctionSale.enc, List.getElem?_append]
theorem pt106_2 (w : World) (x : GAuctionSale) : (part 3 x.enc.toArray 2).run Tryz.prog w = .ok (.int .i64 x.reserve) w := run_part_one na3 us3 (lk106_2 x)
@[go_sem ↓ high] theorem fd106_2 (w : World) (x : GAuctionSale) : (gField 106 (GAuctionSale.val x) 2).run Tryz.prog w = .ok (.int .i64 x.reserve) w := by
  rw [GAuctionSale.val_eq]
  exact run_gField w uu106 (by rw [fl106]; rfl) (pt106_2 w x)
theorem lk106_3 (x : GAuctionSale) : x.enc[3]? = some (.int .u64 x.close) := by
  simp [GAuctionSale.enc, List.getElem?_append]
theorem pt106_3 (w : World) (x : GAuctionSale) : (part 26 x.enc.toArray 3).run Tryz.prog w = .ok (.int .u64 x.close) w := run_part_one na26 us26 (lk106_3 x)
@[go_sem ↓ high] theorem fd106_3 (w : World) (x : GAuctionSale) : (gField 106 (GAuctionSale.val x) 3).run Tryz.prog w = .ok (.int .u64 x.close) w := by
  rw [GAuctionSale.val_eq]
  exact run_gField w uu106 (by rw [fl106]; rfl) (pt106_3 w x)
theorem lk106_4 (x : GAuctionSale) : x.enc[4]? = some (x.bids.val) := by
  simp [GAuctionSale.enc, List.getElem?_append]
theorem pt106_4 (w : World) (x : GAuctionSale) : (part 103 x.enc.toArray 4).run Tryz.prog w = .ok (x.bids.val) w := run_part_one na103 us103 (lk106_4 x)
@[go_sem ↓ high] theorem fd106_4 (w : World) (x : GAuctionSale) : (gField 106 (GAuctionSale.val x) 4).run Tryz.prog w = .ok (x.bids.val) w := by
  rw [GAuctionSale.val_eq]
  exact run_gField w uu106 (by rw [fl106]; rfl) (pt106_4 w x)
theorem lk106_5 (x : GAuctionSale) : x.enc[5]? = some (.bool x.settled) := by
  simp [GAuctionSale.enc, List.getElem?_append]
theorem pt106_5 (w : World) (x : GAuctionSale) : (part 4 x.enc.toArray 5).run Tryz.prog w = .ok (.bool x.settled) w := run_part_one na4 us4 (lk106_5 x)
@[go_sem ↓ high] theorem fd106_5 (w : World) (x : GAuctionSale) : (gField 106 (GAuctionSale.val x) 5).run Tryz.prog w = .ok (.bool x.settled) w := by
  rw [GAuctionSale.val_eq]
  exact run_gField w uu106 (by rw [fl106]; rfl) (pt106_5 w x)
theorem ds106_6 (x : GAuctionSale) : (x.enc.drop 6).take 3 = x.result.enc := by
  unfold GAuctionSale.enc
  simp [List.drop_append, List.drop_eq_nil_of_le]
  exact List.take_of_length_le (by simp [GAuctionResult.enc_len])
theorem pt106_6 (w : World) (x : GAuctionSale) : (part 104 x.enc.toArray 6).run Tryz.prog w = .ok (x.result.val) w := by
  have h := run_part_agg (P := Tryz.prog) (w := w) (cs := x.enc) (ds := x.result.enc) (off := 6) ag104 (by rw [GAuctionResult.enc_len]; exact sz104) (by simp [GAuctionResult.enc_len]) (by rw [GAuctionResult.enc_len]; exact ds106_6 x)
  rw [h, GAuctionResult.val_eq]; rfl
@[go_sem ↓ high] theorem fd106_6 (w : World) (x : GAuctionSale) : (gField 106 (GAuctionSale.val x) 6).run Tryz.prog w = .ok (x.result.val) w := by
  rw [GAuctionSale.val_eq]
  exact run_gField w uu106 (by rw [fl106]; rfl) (pt106_6 w x)
@[go_sem ↓ high] theorem xf_GAuctionSale (ρ : Operand → Value) (dst : Option Tmp) (x : Operand) (i : Nat) (ty : TypeId) (pos : String) (after : Array Edge) (guard : Option (Nat × Bool)) : execOp ρ { dst, op := .field 106 x i, type := ty, pos, after, guard } = (do pure (.value (← gField 106 (ρ x) i))) := ex_field ..
theorem zr106 : zeroT Tryz.prog 106 = some (.agg (GAuctionSale.enc default).toArray) := by kernel_rfl
@[go_sem ↓ high] theorem al_GAuctionSale (w : World) : (gAlloc 106).run Tryz.prog w = .ok (.pointer (some ⟨w.heap.size, 0, none⟩)) (w.alloc (.cells (GAuctionSale.enc default).toArray 106)) := run_zero_alloc zr106 w
@[go_sem] theorem pc_GAuctionSale (w : World) (n : Nat) (x z : GAuctionSale) (hn : n = w.heap.size) : World.putCells (w.alloc (.cells (GAuctionSale.enc z).toArray 106)) ⟨n, 0, none⟩ (GAuctionSale.enc x) = w.alloc (.cells (GAuctionSale.enc x).toArray 106) := putCells_top x z hn
theorem GAuctionSale.at_name {w : World} {a : Addr} {x : GAuctionSale} (h : get? GAuctionSale w a = some x) : w.cell? (a.add 0) = some (.string x.name) := (get?_iff.1 h) _ _ (lk106_0 x)
theorem GAuctionSale.at_vickrey {w : World} {a : Addr} {x : GAuctionSale} (h : get? GAuctionSale w a = some x) : w.cell? (a.add 1) = some (.bool x.vickrey) := (get?_iff.1 h) _ _ (lk106_1 x)
theorem GAuctionSale.at_reserve {w : World} {a : Addr} {x : GAuctionSale} (h : get? GAuctionSale w a = some x) : w.cell? (a.add 2) = some (.int .i64 x.reserve) := (get?_iff.1 h) _ _ (lk106_2 x)
theorem GAuctionSale.at_close {w : World} {a : Addr} {x : GAuctionSale} (h : get? GAuctionSale w a = some x) : w.cell? (a.add 3) = some (.int .u64 x.close) := (get?_iff.1 h) _ _ (lk106_3 x)
theorem GAuctionSale.at_bids {w : World} {a : Addr} {x : GAuctionSale} (h : get? GAuctionSale w a = some x) : w.cell? (a.add 4) = some (x.bids.val) := (get?_iff.1 h) _ _ (lk106_4 x)
theorem GAuctionSale.at_settled {w : World} {a : Addr} {x : GAuctionSale} (h : get? GAuctionSale w a = some x) : w.cell? (a.add 5) = some (.bool x.settled) := (get?_iff.1 h) _ _ (lk106_5 x)
theorem GAuctionSale.at_result {w : World} {a : Addr} {x : GAuctionSale} (h : get? GAuctionSale w a = some x) : get? GAuctionResult w (a.add 6) = some x.result := by
  rw [get?_iff] at h ⊢
  refine h.sub 6 fun j v hv => ?_
  have hd := ds106_6 x
  have hj : j < 3 := by have := (List.getElem?_eq_some_iff.1 hv).1; rwa [Enc.len] at this
  show x.enc[6 + j]? = some v
  rw [← List.getElem?_drop, ← List.getElem?_take_of_lt hj, hd]; exact hv
@[go_sem] theorem nl106_0 (x : GAuctionSale) : x.enc[0]? = some (.string x.name) := by
  have h := (GAuctionSale.at_name (get?_new (w := (default : World)) 106 x))
  simp only [Addr.add_lit, Nat.zero_add, Nat.reduceAdd, World.cell?_alloc_new, List.getElem?_toArray] at h
  exact h
@[go_sem] theorem nl106_1 (x : GAuctionSale) : x.enc[1]? = some (.bool x.vickrey) := by
  have h := (GAuctionSale.at_vickrey (get?_new (w := (default : World)) 106 x))
  simp only [Addr.add_lit, Nat.zero_add, Nat.reduceAdd, World.cell?_alloc_new, List.getElem?_toArray] at h
  exact h
@[go_sem] theorem nl106_2 (x : GAuctionSale) : x.enc[2]? = some (.int .i64 x.reserve) := by
  have h := (GAuctionSale.at_reserve (get?_new (w := (default : World)) 106 x))
  simp only [Addr.add_lit, Nat.zero_add, Nat.reduceAdd, World.cell?_alloc_new, List.getElem?_toArray] at h
  exact h
@[go_sem] theorem nl106_3 (x : GAuctionSale) : x.enc[3]? = some (.int .u64 x.close) := by
  have h := (GAuctionSale.at_close (get?_new (w := (default : World)) 106 x))
  simp only [Addr.add_lit, Nat.zero_add, Nat.reduceAdd, World.cell?_alloc_new, List.getElem?_toArray] at h
  exact h
@[go_sem] theorem nl106_4 (x : GAuctionSale) : x.enc[4]? = some (x.bids.val) := by
  have h := (GAuctionSale.at_bids (get?_new (w := (default : World)) 106 x))
  simp only [Addr.add_lit, Nat.zero_add, Nat.reduceAdd, World.cell?_alloc_new, List.getElem?_toArray] at h
  exact h
@[go_sem] theorem nl106_5 (x : GAuctionSale) : x.enc[5]? = some (.bool x.settled) := by
  have h := (GAuctionSale.at_settled (get?_new (w := (default : World)) 106 x))
  simp only [Addr.add_lit, Nat.zero_add, Nat.reduceAdd, World.cell?_alloc_new, List.getElem?_toArray] at h
  exact h
@[go_sem] theorem nw106_6_GAuctionResult (w : World) (n : Nat) (x : GAuctionSale) (hn : n = w.heap.size) : get? GAuctionResult (w.alloc (.cells (GAuctionSale.enc x).toArray 106)) ⟨n, 6, none⟩ = some x.result := by
  subst hn
  have h := (GAuctionSale.at_result (get?_new (w := w) 106 x))
  simp only [Addr.add_lit, Nat.zero_add, Nat.reduceAdd] at h
  exact h
@[go_sem] theorem nl106_6 (x : GAuctionSale) : x.enc[6]? = some (.string x.result.name) := by
  have h := (GAuctionResult.at_name (GAuctionSale.at_result (get?_new (w := (default : World)) 106 x)))
  simp only [Addr.add_lit, Nat.zero_add, Nat.reduceAdd, World.cell?_alloc_new, List.getElem?_toArray] at h
  exact h
@[go_sem] theorem nl106_7 (x : GAuctionSale) : x.enc[7]? = some (.int .i64 x.result.winner) := by
  have h := (GAuctionResult.at_winner (GAuctionSale.at_result (get?_new (w := (default : World)) 106 x)))
  simp only [Addr.add_lit, Nat.zero_add, Nat.reduceAdd, World.cell?_alloc_new, List.getElem?_toArray] at h
  exact h
@[go_sem] theorem nl106_8 (x : GAuctionSale) : x.enc[8]? = some (.int .i64 x.result.price) := by
  have h := (GAuctionResult.at_price (GAuctionSale.at_result (get?_new (w := (default : World)) 106 x)))
  simp only [Addr.add_lit, Nat.zero_add, Nat.reduceAdd, World.cell?_alloc_new, List.getElem?_toArray] at h
  exact h
@[go_sem] theorem nw106 (w : World) (n : Nat) (x : GAuctionSale) (hn : n = w.heap.size) : get? GAuctionSale (w.alloc (.cells (GAuctionSale.enc x).toArray 106)) ⟨n, 0, none⟩ = some x := by
  subst hn; exact get?_new 106 x
theorem pl106 : ((Tryz.prog.fieldsOf 106).toList.mapM fun f => (Tryz.prog.info? f.type).map fun i => (f.offset, i.size)) = some [(0, 1), (1, 1), (2, 1), (3, 1), (4, 1), (5, 1), (6, 3)] := by kernel_rfl
theorem fs106_0 (x : GAuctionSale) (v : ByteArray) (rest : List (Nat × Value)) : Instr.fill (fun i => ([(0, 1), (1, 1), (2, 1), (3, 1), (4, 1), (5, 1), (6, 3)] : List (Nat × Nat))[i]?) x.enc.toArray ((0, (.string v)) :: rest) = Instr.fill (fun i => ([(0, 1), (1, 1), (2, 1), (3, 1), (4, 1), (5, 1), (6, 3)] : List (Nat × Nat))[i]?) ({ x with name := v } : GAuctionSale).enc.toArray rest := by
  have h := fill_seg [(0, 1), (1, 1), (2, 1), (3, 1), (4, 1), (5, 1), (6, 3)] 0 0 1 rfl (([] : List Value)) ([(.string x.name)]) ([(.bool x.vickrey)] ++ ([(.int .i64 x.reserve)] ++ ([(.int .u64 x.close)] ++ ([(x.bids.val)] ++ ([(.bool x.settled)] ++ (x.result.enc ++ (([] : List Value)))))))) ([(.string v)]) (.string v) rest (rfl) (by simp [GAuctionResult.enc_len]) (by simp [GAuctionResult.enc_len]) (by simp [GAuctionResult.enc_len])
  have e1 : x.enc = (([] : List Value)) ++ ([(.string x.name)] ++ ([(.bool x.vickrey)] ++ ([(.int .i64 x.reserve)] ++ ([(.int .u64 x.close)] ++ ([(x.bids.val)] ++ ([(.bool x.settled)] ++ (x.result.enc ++ (([] : List Value))))))))) := by simp [GAuctionSale.enc]
  have e2 : ({ x with name := v } : GAuctionSale).enc = (([] : List Value)) ++ ([(.string v)] ++ ([(.bool x.vickrey)] ++ ([(.int .i64 x.reserve)] ++ ([(.int .u64 x.close)] ++ ([(x.bids.val)] ++ ([(.bool x.settled)] ++ (x.result.enc ++ (([] : List Value))))))))) := by simp [GAuctionSale.enc]
  rw [e1, e2]; exact h
theorem fs106_1 (x : GAuctionSale) (v : Bool) (rest : List (Nat × Value)) : Instr.fill (fun i => ([(0, 1), (1, 1), (2, 1), (3, 1), (4, 1), (5, 1), (6, 3)] : List (Nat × Nat))[i]?) x.enc.toArray ((1, (.bool v)) :: rest) = Instr.fill (fun i => ([(0, 1), (1, 1), (2, 1), (3, 1), (4, 1), (5, 1), (6, 3)] : List (Nat × Nat))[i]?) ({ x with vickrey := v } : GAuctionSale).enc.toArray rest := by
  have h := fill_seg [(0, 1), (1, 1), (2, 1), (3, 1), (4, 1), (5, 1), (6, 3)] 1 1 1 rfl (([] : List Value) ++ ([(.string x.name)])) ([(.bool x.vickrey)]) ([(.int .i64 x.reserve)] ++ ([(.int .u64 x.close)] ++ ([(x.bids.val)] ++ ([(.bool x.settled)] ++ (x.result.enc ++ (([] : List Value))))))) ([(.bool v)]) (.bool v) rest (rfl) (by simp [GAuctionResult.enc_len]) (by simp [GAuctionResult.enc_len]) (by simp [GAuctionResult.enc_len])
  have e1 : x.enc = (([] : List Value) ++ ([(.string x.name)])) ++ ([(.bool x.vickrey)] ++ ([(.int .i64 x.reserve)] ++ ([(.int .u64 x.close)] ++ ([(x.bids.val)] ++ ([(.bool x.settled)] ++ (x.result.enc ++ (([] : List Value)))))))) := by simp [GAuctionSale.enc]
  have e2 : ({ x with vickrey := v } : GAuctionSale).enc = (([] : List Value) ++ ([(.string x.name)])) ++ ([(.bool v)] ++ ([(.int .i64 x.reserve)] ++ ([(.int .u64 x.close)] ++ ([(x.bids.val)] ++ ([(.bool x.settled)] ++ (x.result.enc ++ (([] : List Value)))))))) := by simp [GAuctionSale.enc]
  rw [e1, e2]; exact h
theorem fs106_2 (x : GAuctionSale) (v : Int) (rest : List (Nat × Value)) : Instr.fill (fun i => ([(0, 1), (1, 1), (2, 1), (3, 1), (4, 1), (5, 1), (6, 3)] : List (Nat × Nat))[i]?) x.enc.toArray ((2, (.int .i64 v)) :: rest) = Instr.fill (fun i => ([(0, 1), (1, 1), (2, 1), (3, 1), (4, 1), (5, 1), (6, 3)] : List (Nat × Nat))[i]?) ({ x with reserve := v } : GAuctionSale).enc.toArray rest := by
  have h := fill_seg [(0, 1), (1, 1), (2, 1), (3, 1), (4, 1), (5, 1), (6, 3)] 2 2 1 rfl (([] : List Value) ++ ([(.string x.name)] ++ ([(.bool x.vickrey)]))) ([(.int .i64 x.reserve)]) ([(.int .u64 x.close)] ++ ([(x.bids.val)] ++ ([(.bool x.settled)] ++ (x.result.enc ++ (([] : List Value)))))) ([(.int .i64 v)]) (.int .i64 v) rest (rfl) (by simp [GAuctionResult.enc_len]) (by simp [GAuctionResult.enc_len]) (by simp [GAuctionResult.enc_len])
  have e1 : x.enc = (([] : List Value) ++ ([(.string x.name)] ++ ([(.bool x.vickrey)]))) ++ ([(.int .i64 x.reserve)] ++ ([(.int .u64 x.close)] ++ ([(x.bids.val)] ++ ([(.bool x.settled)] ++ (x.result.enc ++ (([] : List Value))))))) := by simp [GAuctionSale.enc]
  have e2 : ({ x with reserve := v } : GAuctionSale).enc = (([] : List Value) ++ ([(.string x.name)] ++ ([(.bool x.vickrey)]))) ++ ([(.int .i64 v)] ++ ([(.int .u64 x.close)] ++ ([(x.bids.val)] ++ ([(.bool x.settled)] ++ (x.result.enc ++ (([] : List Value))))))) := by simp [GAuctionSale.enc]
  rw [e1, e2]; exact h
theorem fs106_3 (x : GAuctionSale) (v : Int) (rest : List (Nat × Value)) : Instr.fill (fun i => ([(0, 1), (1, 1), (2, 1), (3, 1), (4, 1), (5, 1), (6, 3)] : List (Nat × Nat))[i]?) x.enc.toArray ((3, (.int .u64 v)) :: rest) = Instr.fill (fun i => ([(0, 1), (1, 1), (2, 1), (3, 1), (4, 1), (5, 1), (6, 3)] : List (Nat × Nat))[i]?) ({ x with close := v } : GAuctionSale).enc.toArray rest := by
  have h := fill_seg [(0, 1), (1, 1), (2, 1), (3, 1), (4, 1), (5, 1), (6, 3)] 3 3 1 rfl (([] : List Value) ++ ([(.string x.name)] ++ ([(.bool x.vickrey)] ++ ([(.int .i64 x.reserve)])))) ([(.int .u64 x.close)]) ([(x.bids.val)] ++ ([(.bool x.settled)] ++ (x.result.enc ++ (([] : List Value))))) ([(.int .u64 v)]) (.int .u64 v) rest (rfl) (by simp [GAuctionResult.enc_len]) (by simp [GAuctionResult.enc_len]) (by simp [GAuctionResult.enc_len])
  have e1 : x.enc = (([] : List Value) ++ ([(.string x.name)] ++ ([(.bool x.vickrey)] ++ ([(.int .i64 x.reserve)])))) ++ ([(.int .u64 x.close)] ++ ([(x.bids.val)] ++ ([(.bool x.settled)] ++ (x.result.enc ++ (([] : List Value)))))) := by simp [GAuctionSale.enc]
  have e2 : ({ x with close := v } : GAuctionSale).enc = (([] : List Value) ++ ([(.string x.name)] ++ ([(.bool x.vickrey)] ++ ([(.int .i64 x.reserve)])))) ++ ([(.int .u64 v)] ++ ([(x.bids.val)] ++ ([(.bool x.settled)] ++ (x.result.enc ++ (([] : List Value)))))) := by simp [GAuctionSale.enc]
  rw [e1, e2]; exact h
@[go_sem ↓ high] theorem xd_GAuctionSale (ρ : Operand → Value) (dst : Option Tmp) (ps : Array (Nat × Operand)) (ty : TypeId) (pos : String) (after : Array Edge) (guard : Option (Nat × Bool)) : execOp ρ { dst, op := .build 106 ps, type := ty, pos, after, guard } = (do pure (.value (← gBuild 106 (ps.map fun (i, x) => (i, ρ x))))) := ex_build ..
@[go_sem ↓ high] theorem bd106_0 (w : World) (v0 : ByteArray) (v1 : Bool) (v2 : Int) (v3 : Int) : (gBuild 106 #[(0, (.string v0)), (1, (.bool v1)), (2, (.int .i64 v2)), (3, (.int .u64 v3))]).run Tryz.prog w = .ok (GAuctionSale.val ⟨v0, v1, v2, v3, default, false, default⟩) w := by
  rw [GAuctionSale.val_eq]
  refine run_gBuild_of uu106 zr106 pl106 ?_ w
  show Instr.fill _ (GAuctionSale.enc default).toArray [(0, (.string v0)), (1, (.bool v1)), (2, (.int .i64 v2)), (3, (.int .u64 v3))] = _
  rw [fs106_0, fs106_1, fs106_2, fs106_3]; rfl

/-! ### gavel/auction.bid -/
structure GAuctionBid where
  client : Int
  amount : Int
deriving DecidableEq
instance : Inhabited GAuctionBid := ⟨⟨0, 0⟩⟩
def GAuctionBid.enc (x : GAuctionBid) : List Value := [(.int .i64 x.client)] ++ ([(.int .i64 x.amount)])
theorem GAuctionBid.enc_len (x : GAuctionBid) : x.enc.length = 2 := by simp [GAuctionBid.enc]
theorem GAuctionBid.enc_one (x : GAuctionBid) : ∀ u ∈ x.enc, u.oneCell' = true := by
  intro u hu
  simp only [GAuctionBid.enc, List.mem_append, List.mem_singleton] at hu
  rcases hu with hu | hu
  · subst hu; rfl
  · subst hu; rfl
theorem GAuctionBid.enc_inj (x y : GAuctionBid) (h : x.enc = y.enc) : x = y := by
  obtain ⟨a0, a1⟩ := x
  obtain ⟨b0, b1⟩ := y
  simp only [GAuctionBid.enc] at h
  obtain ⟨p0, q0⟩ := List.append_inj h (rfl)
  have e0 : a0 = b0 := by have := List.head_eq_of_cons_eq p0; injection this
  have e1 : a1 = b1 := by have := List.head_eq_of_cons_eq q0; injection this
  rw [e0, e1]
instance : Enc GAuctionBid where
  n := 2
  enc := GAuctionBid.enc
  pos := by omega
  len := GAuctionBid.enc_len
  one := GAuctionBid.enc_one
  inj := GAuctionBid.enc_inj
@[go_sem] theorem GAuctionBid.n_eq : Enc.n GAuctionBid = 2 := rfl
@[irreducible] def GAuctionBid.val (x : GAuctionBid) : Value := .agg x.enc.toArray
theorem GAuctionBid.val_eq (x : GAuctionBid) : GAuctionBid.val x = .agg (Enc.enc x).toArray := by unfold GAuctionBid.val; rfl
theorem GAuctionBid.ext_all (x y : GAuctionBid) : x = y ↔ x.client = y.client ∧ x.amount = y.amount := by
  constructor
  · intro h; cases h; simp
  · intro h; cases x; cases y; simp_all
theorem uu128 : Tryz.prog.underlying 128 = some (.struct (Tryz.prog.fieldsOf 128)) := by kernel_rfl
theorem st128 : Tryz.prog.stoodInHeld 128 = false := by kernel_rfl
theorem fl128 : fieldTO Tryz.prog 128 = [(3, 0), (3, 1)] := by kernel_rfl
theorem nb128 : noBlank Tryz.prog 128 = true := by kernel_rfl
@[go_sem ↓ high] theorem xl_GAuctionBid (ρ : Operand → Value) (dst : Option Tmp) (x : Operand) (ty : TypeId) (pos : String) (after : Array Edge) (guard : Option (Nat × Bool)) : execOp ρ { dst, op := .load 128 x, type := ty, pos, after, guard } = (do pure (.value (← gLoad 128 (ρ x)))) := ex_load ..
@[go_sem ↓ high] theorem xs_GAuctionBid (ρ : Operand → Value) (dst : Option Tmp) (x y : Operand) (ty : TypeId) (pos : String) (after : Array Edge) (guard : Option (Nat × Bool)) : execOp ρ { dst, op := .store 128 x y, type := ty, pos, after, guard } = (do gStore 128 (ρ x) (ρ y); pure .skip) := ex_store ..
@[go_sem ↓ high] theorem xb_GAuctionBid (ρ : Operand → Value) (dst : Option Tmp) (x : Operand) (ty : TypeId) (pos : String) (after : Array Edge) (guard : Option (Nat × Bool)) : execOp ρ { dst, op := .box 128 x, type := ty, pos, after, guard } = (do pure (.value (← gBox 128 (ρ x)))) := ex_box ..
@[go_sem ↓ high] theorem xa_GAuctionBid (ρ : Operand → Value) (dst : Option Tmp) (ty : TypeId) (pos : String) (after : Array Edge) (guard : Option (Nat × Bool)) : execOp ρ { dst, op := .alloc 128, type := ty, pos, after, guard } = (do pure (.value (← gAlloc 128))) := ex_alloc ..
theorem ag128 : aggT Tryz.prog 128 = true := by kernel_rfl
theorem sz128 : sizeT Tryz.prog 128 = 2 := by kernel_rfl
section
variable (w : World)
@[go_sem ↓ high] theorem ld_GAuctionBid (a : Addr) : (gLoad 128 (.pointer (some a))).run Tryz.prog w = ofOpt ((get? GAuctionBid w a).map GAuctionBid.val) w (noLoad Tryz.prog 128 a w) := by
  unfold gLoad; exact run_loadAt_opt ag128 sz128 GAuctionBid.val GAuctionBid.val_eq
@[go_sem ↓ high] theorem st_GAuctionBid (a : Addr) (x : GAuctionBid) : (gStore 128 (.pointer (some a)) (GAuctionBid.val x)).run Tryz.prog w = okU' ((get? GAuctionBid w a).isSome && blkFree w a.block) (World.putCells w a (GAuctionBid.enc x)) (noStore Tryz.prog 128 (.pointer (some a)) (GAuctionBid.val x) w) := run_gStore_any sz128 GAuctionBid.val GAuctionBid.val_eq w a x
@[go_sem ↓ high] theorem bx_GAuctionBid (x : GAuctionBid) : (gBox 128 (GAuctionBid.val x)).run Tryz.prog w = .ok (.pointer (some ⟨w.heap.size, 0, none⟩)) (w.alloc (.cells (GAuctionBid.enc x).toArray 128)) := by
  rw [GAuctionBid.val_eq]; exact run_gBox _ w
end
theorem lk128_0 (x : GAuctionBid) : x.enc[0]? = some (.int .i64 x.client) := by
  simp [GAuctionBid.enc, List.getElem?_append]
theorem pt128_0 (w : World) (x : GAuctionBid) : (part 3 x.enc.toArray 0).run Tryz.prog w = .ok (.int .i64 x.client) w := run_part_one na3 us3 (lk128_0 x)
@[go_sem ↓ high] theorem fd128_0 (w : World) (x : GAuctionBid) : (gField 128 (GAuctionBid.val x) 0).run Tryz.prog w = .ok (.int .i64 x.client) w := by
  rw [GAuctionBid.val_eq]
  exact run_gField w uu128 (by rw [fl128]; rfl) (pt128_0 w x)
theorem lk128_1 (x : GAuctionBid) : x.enc[1]? = some (.int .i64 x.amount) := by
  simp [GAuctionBid.enc, List.getElem?_append]
theorem pt128_1 (w : World) (x : GAuctionBid) : (part 3 x.enc.toArray 1).run Tryz.prog w = .ok (.int .i64 x.amount) w := run_part_one na3 us3 (lk128_1 x)
@[go_sem ↓ high] theorem fd128_1 (w : World) (x : GAuctionBid) : (gField 128 (GAuctionBid.val x) 1).run Tryz.prog w = .ok (.int .i64 x.amount) w := by
  rw [GAuctionBid.val_eq]
  exact run_gField w uu128 (by rw [fl128]; rfl) (pt128_1 w x)
@[go_sem ↓ high] theorem xf_GAuctionBid (ρ : Operand → Value) (dst : Option Tmp) (x : Operand) (i : Nat) (ty : TypeId) (pos : String) (after : Array Edge) (guard : Option (Nat × Bool)) : execOp ρ { dst, op := .field 128 x i, type := ty, pos, after, guard } = (do pure (.value (← gField 128 (ρ x) i))) := ex_field ..
theorem zr128 : zeroT Tryz.prog 128 = some (.agg (GAuctionBid.enc default).toArray) := by kernel_rfl
@[go_sem ↓ high] theorem al_GAuctionBid (w : World) : (gAlloc 128).run Tryz.prog w = .ok (.pointer (some ⟨w.heap.size, 0, none⟩)) (w.alloc (.cells (GAuctionBid.enc default).toArray 128)) := run_zero_alloc zr128 w
@[go_sem] theorem pc_GAuctionBid (w : World) (n : Nat) (x z : GAuctionBid) (hn : n = w.heap.size) : World.putCells (w.alloc (.cells (GAuctionBid.enc z).toArray 128)) ⟨n, 0, none⟩ (GAuctionBid.enc x) = w.alloc (.cells (GAuctionBid.enc x).toArray 128) := putCells_top x z hn
theorem GAuctionBid.at_client {w : World} {a : Addr} {x : GAuctionBid} (h : get? GAuctionBid w a = some x) : w.cell? (a.add 0) = some (.int .i64 x.client) := (get?_iff.1 h) _ _ (lk128_0 x)
theorem GAuctionBid.at_amount {w : World} {a : Addr} {x : GAuctionBid} (h : get? GAuctionBid w a = some x) : w.cell? (a.add 1) = some (.int .i64 x.amount) := (get?_iff.1 h) _ _ (lk128_1 x)
@[go_sem] theorem nl128_0 (x : GAuctionBid) : x.enc[0]? = some (.int .i64 x.client) := by
  have h := (GAuctionBid.at_client (get?_new (w := (default : World)) 128 x))
  simp only [Addr.add_lit, Nat.zero_add, Nat.reduceAdd, World.cell?_alloc_new, List.getElem?_toArray] at h
  exact h
@[go_sem] theorem nl128_1 (x : GAuctionBid) : x.enc[1]? = some (.int .i64 x.amount) := by
  have h := (GAuctionBid.at_amount (get?_new (w := (default : World)) 128 x))
  simp only [Addr.add_lit, Nat.zero_add, Nat.reduceAdd, World.cell?_alloc_new, List.getElem?_toArray] at h
  exact h
@[go_sem] theorem nw128 (w : World) (n : Nat) (x : GAuctionBid) (hn : n = w.heap.size) : get? GAuctionBid (w.alloc (.cells (GAuctionBid.enc x).toArray 128)) ⟨n, 0, none⟩ = some x := by
  subst hn; exact get?_new 128 x
theorem pl128 : ((Tryz.prog.fieldsOf 128).toList.mapM fun f => (Tryz.prog.info? f.type).map fun i => (f.offset, i.size)) = some [(0, 1), (1, 1)] := by kernel_rfl
theorem fs128_0 (x : GAuctionBid) (v : Int) (rest : List (Nat × Value)) : Instr.fill (fun i => ([(0, 1), (1, 1)] : List (Nat × Nat))[i]?) x.enc.toArray ((0, (.int .i64 v)) :: rest) = Instr.fill (fun i => ([(0, 1), (1, 1)] : List (Nat × Nat))[i]?) ({ x with client := v } : GAuctionBid).enc.toArray rest := by
  have h := fill_seg [(0, 1), (1, 1)] 0 0 1 rfl (([] : List Value)) ([(.int .i64 x.client)]) ([(.int .i64 x.amount)] ++ (([] : List Value))) ([(.int .i64 v)]) (.int .i64 v) rest (rfl) (by simp) (by simp) (by simp)
  have e1 : x.enc = (([] : List Value)) ++ ([(.int .i64 x.client)] ++ ([(.int .i64 x.amount)] ++ (([] : List Value)))) := by simp [GAuctionBid.enc]
  have e2 : ({ x with client := v } : GAuctionBid).enc = (([] : List Value)) ++ ([(.int .i64 v)] ++ ([(.int .i64 x.amount)] ++ (([] : List Value)))) := by simp [GAuctionBid.enc]
  rw [e1, e2]; exact h
theorem fs128_1 (x : GAuctionBid) (v : Int) (rest : List (Nat × Value)) : Instr.fill (fun i => ([(0, 1), (1, 1)] : List (Nat × Nat))[i]?) x.enc.toArray ((1, (.int .i64 v)) :: rest) = Instr.fill (fun i => ([(0, 1), (1, 1)] : List (Nat × Nat))[i]?) ({ x with amount := v } : GAuctionBid).enc.toArray rest := by
  have h := fill_seg [(0, 1), (1, 1)] 1 1 1 rfl (([] : List Value) ++ ([(.int .i64 x.client)])) ([(.int .i64 x.amount)]) (([] : List Value)) ([(.int .i64 v)]) (.int .i64 v) rest (rfl) (by simp) (by simp) (by simp)
  have e1 : x.enc = (([] : List Value) ++ ([(.int .i64 x.client)])) ++ ([(.int .i64 x.amount)] ++ (([] : List Value))) := by simp [GAuctionBid.enc]
  have e2 : ({ x with amount := v } : GAuctionBid).enc = (([] : List Value) ++ ([(.int .i64 x.client)])) ++ ([(.int .i64 v)] ++ (([] : List Value))) := by simp [GAuctionBid.enc]
  rw [e1, e2]; exact h
@[go_sem ↓ high] theorem xd_GAuctionBid (ρ : Operand → Value) (dst : Option Tmp) (ps : Array (Nat × Operand)) (ty : TypeId) (pos : String) (after : Array Edge) (guard : Option (Nat × Bool)) : execOp ρ { dst, op := .build 128 ps, type := ty, pos, after, guard } = (do pure (.value (← gBuild 128 (ps.map fun (i, x) => (i, ρ x))))) := ex_build ..
@[go_sem ↓ high] theorem bd128_0 (w : World) (v0 : Int) (v1 : Int) : (gBuild 128 #[(0, (.int .i64 v0)), (1, (.int .i64 v1))]).run Tryz.prog w = .ok (GAuctionBid.val ⟨v0, v1⟩) w := by
  rw [GAuctionBid.val_eq]
  refine run_gBuild_of uu128 zr128 pl128 ?_ w
  show Instr.fill _ (GAuctionBid.enc default).toArray [(0, (.int .i64 v0)), (1, (.int .i64 v1))] = _
  rw [fs128_0, fs128_1]; rfl
theorem eq_GAuctionBid (w : World) (d : Nat) (x y : GAuctionBid) : (Op.equalIn (d + 2) 128 (GAuctionBid.val x) (GAuctionBid.val y)).run Tryz.prog w = .ok (decide (x = y)) w := by
  have q0 : ∀ a b, (Op.equalIn (d + 1) 3 (.int .i64 a) (.int .i64 b)).run Tryz.prog w = .ok (decide (a = b)) w := fun a b => by rw [run_equalIn_int w (d + 0) 3 .i64 .i64 a b uk3]; congr 1
  have q1 : ∀ a b, (Op.equalIn (d + 1) 3 (.int .i64 a) (.int .i64 b)).run Tryz.prog w = .ok (decide (a = b)) w := fun a b => by rw [run_equalIn_int w (d + 0) 3 .i64 .i64 a b uk3]; congr 1
  have h := run_equalIn_fields (d + 1) x.enc.toArray y.enc.toArray w uu128 st128 nb128
  rw [fl128] at h
  unfold GAuctionBid.val
  refine h.trans ?_
  clear h
  simp only [eqFs, Sem.run_bind, pt128_0, pt128_1, q0, q1, Result.andThen_ok, Sem.run_ite, Sem.run_pure]
  have he : decide (x = y) = (decide (x.client = y.client) && (decide (x.amount = y.amount))) := by
    rw [Bool.eq_iff_iff]; simp only [Bool.and_eq_true, decide_eq_true_eq]; exact GAuctionBid.ext_all x y
  rw [he]
  generalize decide (x.client = y.client) = c0; generalize decide (x.amount = y.amount) = c1
  cases c0 <;> cases c1 <;> simp
@[go_sem ↓ high] theorem xq_GAuctionBid (ρ : Operand → Value) (dst : Option Tmp) (x y : Operand) (ty yt : TypeId) (pos : String) (after : Array Edge) (guard : Option (Nat × Bool)) : execOp ρ { dst, op := .binOp .eql 128 x y yt, type := ty, pos, after, guard } = (do pure (.value (← gBin .eql 128 x y (ρ x) (ρ y)))) := ex_eql ..
@[go_sem ↓ high] theorem xn_GAuctionBid (ρ : Operand → Value) (dst : Option Tmp) (x y : Operand) (ty yt : TypeId) (pos : String) (after : Array Edge) (guard : Option (Nat × Bool)) : execOp ρ { dst, op := .binOp .neq 128 x y yt, type := ty, pos, after, guard } = (do pure (.value (← gBin .neq 128 x y (ρ x) (ρ y)))) := ex_neq ..
theorem eg_GAuctionBid : Tryz.prog.eqGuardType Tryz.prog.depth 128 = false := by kernel_rfl
@[go_sem ↓ high] theorem eql_GAuctionBid (w : World) (ox oy : Operand) (x y : GAuctionBid) : (gBin .eql 128 ox oy (GAuctionBid.val x) (GAuctionBid.val y)).run Tryz.prog w = .ok (.bool (decide (x = y))) w := by
  have h2 := eq_GAuctionBid w 9998 x y
  rw [GAuctionBid.val_eq, GAuctionBid.val_eq] at h2 ⊢
  have h := run_eqGuard_agg (P := Tryz.prog) w .eql 128 ox oy (Enc.enc x).toArray (Enc.enc y).toArray eg_GAuctionBid
  unfold gBin
  simp only [Sem.run_bind, h, Result.andThen_ok, run_eql_struct, h2]
@[go_sem ↓ high] theorem neq_GAuctionBid (w : World) (ox oy : Operand) (x y : GAuctionBid) : (gBin .neq 128 ox oy (GAuctionBid.val x) (GAuctionBid.val y)).run Tryz.prog w = .ok (.bool (!decide (x = y))) w := by
  have h2 := eq_GAuctionBid w 9998 x y
  rw [GAuctionBid.val_eq, GAuctionBid.val_eq] at h2 ⊢
  have h := run_eqGuard_agg (P := Tryz.prog) w .neq 128 ox oy (Enc.enc x).toArray (Enc.enc y).toArray eg_GAuctionBid
  unfold gBin
  simp only [Sem.run_bind, h, Result.andThen_ok, run_neq_struct, h2]

/-! ### gavel/auction.House -/
structure GAuctionHouse where
  m : Option Nat
deriving DecidableEq
instance : Inhabited GAuctionHouse := ⟨⟨none⟩⟩
def GAuctionHouse.enc (x : GAuctionHouse) : List Value := [(.map x.m)]
theorem GAuctionHouse.enc_len (x : GAuctionHouse) : x.enc.length = 1 := by simp [GAuctionHouse.enc]
theorem GAuctionHouse.enc_one (x : GAuctionHouse) : ∀ u ∈ x.enc, u.oneCell' = true := by
  intro u hu
  simp only [GAuctionHouse.enc, List.mem_append, List.mem_singleton] at hu
  subst hu; rfl
theorem GAuctionHouse.enc_inj (x y : GAuctionHouse) (h : x.enc = y.enc) : x = y := by
  obtain ⟨a0⟩ := x
  obtain ⟨b0⟩ := y
  simp only [GAuctionHouse.enc] at h
  have e0 : a0 = b0 := by have := List.head_eq_of_cons_eq h; injection this
  rw [e0]
instance : Enc GAuctionHouse where
  n := 1
  enc := GAuctionHouse.enc
  pos := by omega
  len := GAuctionHouse.enc_len
  one := GAuctionHouse.enc_one
  inj := GAuctionHouse.enc_inj
@[go_sem] theorem GAuctionHouse.n_eq : Enc.n GAuctionHouse = 1 := rfl
@[irreducible] def GAuctionHouse.val (x : GAuctionHouse) : Value := .agg x.enc.toArray
theorem GAuctionHouse.val_eq (x : GAuctionHouse) : GAuctionHouse.val x = .agg (Enc.enc x).toArray := by unfold GAuctionHouse.val; rfl
theorem GAuctionHouse.ext_all (x y : GAuctionHouse) : x = y ↔ x.m = y.m := by
  constructor
  · intro h; cases h; simp
  · intro h; cases x; cases y; simp_all
theorem uu108 : Tryz.prog.underlying 108 = some (.struct (Tryz.prog.fieldsOf 108)) := by kernel_rfl
theorem st108 : Tryz.prog.stoodInHeld 108 = false := by kernel_rfl
theorem fl108 : fieldTO Tryz.prog 108 = [(102, 0)] := by kernel_rfl
theorem nb108 : noBlank Tryz.prog 108 = true := by kernel_rfl
@[go_sem ↓ high] theorem xl_GAuctionHouse (ρ : Operand → Value) (dst : Option Tmp) (x : Operand) (ty : TypeId) (pos : String) (after : Array Edge) (guard : Option (Nat × Bool)) : execOp ρ { dst, op := .load 108 x, type := ty, pos, after, guard } = (do pure (.value (← gLoad 108 (ρ x)))) := ex_load ..
@[go_sem ↓ high] theorem xs_GAuctionHouse (ρ : Operand → Value) (dst : Option Tmp) (x y : Operand) (ty : TypeId) (pos : String) (after : Array Edge) (guard : Option (Nat × Bool)) : execOp ρ { dst, op := .store 108 x y, type := ty, pos, after, guard } = (do gStore 108 (ρ x) (ρ y); pure .skip) := ex_store ..
@[go_sem ↓ high] theorem xb_GAuctionHouse (ρ : Operand → Value) (dst : Option Tmp) (x : Operand) (ty : TypeId) (pos : String) (after : Array Edge) (guard : Option (Nat × Bool)) : execOp ρ { dst, op := .box 108 x, type := ty, pos, after, guard } = (do pure (.value (← gBox 108 (ρ x)))) := ex_box ..
@[go_sem ↓ high] theorem xa_GAuctionHouse (ρ : Operand → Value) (dst : Option Tmp) (ty : TypeId) (pos : String) (after : Array Edge) (guard : Option (Nat × Bool)) : execOp ρ { dst, op := .alloc 108, type := ty, pos, after, guard } = (do pure (.value (← gAlloc 108))) := ex_alloc ..
theorem ag108 : aggT Tryz.prog 108 = true := by kernel_rfl
theorem sz108 : sizeT Tryz.prog 108 = 1 := by kernel_rfl
section
variable (w : World)
@[go_sem ↓ high] theorem ld_GAuctionHouse (a : Addr) : (gLoad 108 (.pointer (some a))).run Tryz.prog w = ofOpt ((get? GAuctionHouse w a).map GAuctionHouse.val) w (noLoad Tryz.prog 108 a w) := by
  unfold gLoad; exact run_loadAt_opt ag108 sz108 GAuctionHouse.val GAuctionHouse.val_eq
@[go_sem ↓ high] theorem st_GAuctionHouse (a : Addr) (x : GAuctionHouse) : (gStore 108 (.pointer (some a)) (GAuctionHouse.val x)).run Tryz.prog w = okU' ((get? GAuctionHouse w a).isSome && blkFree w a.block) (World.putCells w a (GAuctionHouse.enc x)) (noStore Tryz.prog 108 (.pointer (some a)) (GAuctionHouse.val x) w) := run_gStore_any sz108 GAuctionHouse.val GAuctionHouse.val_eq w a x
@[go_sem ↓ high] theorem bx_GAuctionHouse (x : GAuctionHouse) : (gBox 108 (GAuctionHouse.val x)).run Tryz.prog w = .ok (.pointer (some ⟨w.heap.size, 0, none⟩)) (w.alloc (.cells (GAuctionHouse.enc x).toArray 108)) := by
  rw [GAuctionHouse.val_eq]; exact run_gBox _ w
end
theorem lk108_0 (x : GAuctionHouse) : x.enc[0]? = some (.map x.m) := by
  simp [GAuctionHouse.enc, List.getElem?_append]
theorem pt108_0 (w : World) (x : GAuctionHouse) : (part 102 x.enc.toArray 0).run Tryz.prog w = .ok (.map x.m) w := run_part_one na102 us102 (lk108_0 x)
@[go_sem ↓ high] theorem fd108_0 (w : World) (x : GAuctionHouse) : (gField 108 (GAuctionHouse.val x) 0).run Tryz.prog w = .ok (.map x.m) w := by
  rw [GAuctionHouse.val_eq]
  exact run_gField w uu108 (by rw [fl108]; rfl) (pt108_0 w x)
@[go_sem ↓ high] theorem xf_GAuctionHouse (ρ : Operand → Value) (dst : Option Tmp) (x : Operand) (i : Nat) (ty : TypeId) (pos : String) (after : Array Edge) (guard : Option (Nat × Bool)) : execOp ρ { dst, op := .field 108 x i, type := ty, pos, after, guard } = (do pure (.value (← gField 108 (ρ x) i))) := ex_field ..
theorem zr108 : zeroT Tryz.prog 108 = some (.agg (GAuctionHouse.enc default).toArray) := by kernel_rfl
@[go_sem ↓ high] theorem al_GAuctionHouse (w : World) : (gAlloc 108).run Tryz.prog w = .ok (.pointer (some ⟨w.heap.size, 0, none⟩)) (w.alloc (.cells (GAuctionHouse.enc default).toArray 108)) := run_zero_alloc zr108 w
@[go_sem] theorem pc_GAuctionHouse (w : World) (n : Nat) (x z : GAuctionHouse) (hn : n = w.heap.size) : World.putCells (w.alloc (.cells (GAuctionHouse.enc z).toArray 108)) ⟨n, 0, none⟩ (GAuctionHouse.enc x) = w.alloc (.cells (GAuctionHouse.enc x).toArray 108) := putCells_top x z hn
theorem GAuctionHouse.at_m {w : World} {a : Addr} {x : GAuctionHouse} (h : get? GAuctionHouse w a = some x) : w.cell? (a.add 0) = some (.map x.m) := (get?_iff.1 h) _ _ (lk108_0 x)
@[go_sem] theorem nl108_0 (x : GAuctionHouse) : x.enc[0]? = some (.map x.m) := by
  have h := (GAuctionHouse.at_m (get?_new (w := (default : World)) 108 x))
  simp only [Addr.add_lit, Nat.zero_add, Nat.reduceAdd, World.cell?_alloc_new, List.getElem?_toArray] at h
  exact h
@[go_sem] theorem nw108 (w : World) (n : Nat) (x : GAuctionHouse) (hn : n = w.heap.size) : get? GAuctionHouse (w.alloc (.cells (GAuctionHouse.enc x).toArray 108)) ⟨n, 0, none⟩ = some x := by
  subst hn; exact get?_new 108 x
theorem pl108 : ((Tryz.prog.fieldsOf 108).toList.mapM fun f => (Tryz.prog.info? f.type).map fun i => (f.offset, i.size)) = some [(0, 1)] := by kernel_rfl
theorem fs108_0 (x : GAuctionHouse) (v : Option Nat) (rest : List (Nat × Value)) : Instr.fill (fun i => ([(0, 1)] : List (Nat × Nat))[i]?) x.enc.toArray ((0, (.map v)) :: rest) = Instr.fill (fun i => ([(0, 1)] : List (Nat × Nat))[i]?) ({ x with m := v } : GAuctionHouse).enc.toArray rest := by
  have h := fill_seg [(0, 1)] 0 0 1 rfl (([] : List Value)) ([(.map x.m)]) (([] : List Value)) ([(.map v)]) (.map v) rest (rfl) (by simp) (by simp) (by simp)
  have e1 : x.enc = (([] : List Value)) ++ ([(.map x.m)] ++ (([] : List Value))) := by simp [GAuctionHouse.enc]
  have e2 : ({ x with m := v } : GAuctionHouse).enc = (([] : List Value)) ++ ([(.map v)] ++ (([] : List Value))) := by simp [GAuctionHouse.enc]
  rw [e1, e2]; exact h
@[go_sem ↓ high] theorem xd_GAuctionHouse (ρ : Operand → Value) (dst : Option Tmp) (ps : Array (Nat × Operand)) (ty : TypeId) (pos : String) (after : Array Edge) (guard : Option (Nat × Bool)) : execOp ρ { dst, op := .build 108 ps, type := ty, pos, after, guard } = (do pure (.value (← gBuild 108 (ps.map fun (i, x) => (i, ρ x))))) := ex_build ..
@[go_sem ↓ high] theorem bd108_0 (w : World) (v0 : Option Nat) : (gBuild 108 #[(0, (.map v0))]).run Tryz.prog w = .ok (GAuctionHouse.val ⟨v0⟩) w := by
  rw [GAuctionHouse.val_eq]
  refine run_gBuild_of uu108 zr108 pl108 ?_ w
  show Instr.fill _ (GAuctionHouse.enc default).toArray [(0, (.map v0))] = _
  rw [fs108_0]; rfl
/-! ### []auction.bid -/
theorem ei103 : ElemI Tryz.prog 103 128 GAuctionBid 16 := ⟨by kernel_rfl, by kernel_rfl⟩
@[go_sem ↓ high] theorem xg_103 (ρ : Operand → Value) (dst : Option Tmp) (ps : Array (Nat × Operand)) (ty : TypeId) (pos : String) (after : Array Edge) (guard : Option (Nat × Bool)) : execOp ρ { dst, op := .buildSlice 103 1 ps, type := ty, pos, after, guard } = (do pure (.value (← gBuildSlice 103 1 (ps.map fun (i, x) => (i, ρ x))))) := ex_buildSlice ..
@[go_sem ↓ high] theorem bs_103 (w : World) (x : GAuctionBid) : (gBuildSlice 103 1 #[(0, GAuctionBid.val x)]).run Tryz.prog w = .ok (.slice (some ⟨w.heap.size, 0, none⟩) 1 1) (w.alloc (.cells (GAuctionBid.enc x).toArray 128)) := by
  rw [GAuctionBid.val_eq]; exact run_buildSlice_one ei103 (by decide) x w
/-! ### []auction.sale -/
theorem ei115 : ElemI Tryz.prog 115 106 GAuctionSale 104 := ⟨by kernel_rfl, by kernel_rfl⟩
@[go_sem ↓ high] theorem xg_115 (ρ : Operand → Value) (dst : Option Tmp) (ps : Array (Nat × Operand)) (ty : TypeId) (pos : String) (after : Array Edge) (guard : Option (Nat × Bool)) : execOp ρ { dst, op := .buildSlice 115 1 ps, type := ty, pos, after, guard } = (do pure (.value (← gBuildSlice 115 1 (ps.map fun (i, x) => (i, ρ x))))) := ex_buildSlice ..
@[go_sem ↓ high] theorem bs_115 (w : World) (x : GAuctionSale) : (gBuildSlice 115 1 #[(0, GAuctionSale.val x)]).run Tryz.prog w = .ok (.slice (some ⟨w.heap.size, 0, none⟩) 1 1) (w.alloc (.cells (GAuctionSale.enc x).toArray 106)) := by
  rw [GAuctionSale.val_eq]; exact run_buildSlice_one ei115 (by decide) x w
/-! ### []auction.Result -/
theorem ei63 : ElemI Tryz.prog 63 104 GAuctionResult 32 := ⟨by kernel_rfl, by kernel_rfl⟩
@[go_sem ↓ high] theorem xg_63 (ρ : Operand → Value) (dst : Option Tmp) (ps : Array (Nat × Operand)) (ty : TypeId) (pos : String) (after : Array Edge) (guard : Option (Nat × Bool)) : execOp ρ { dst, op := .buildSlice 63 1 ps, type := ty, pos, after, guard } = (do pure (.value (← gBuildSlice 63 1 (ps.map fun (i, x) => (i, ρ x))))) := ex_buildSlice ..
@[go_sem ↓ high] theorem bs_63 (w : World) (x : GAuctionResult) : (gBuildSlice 63 1 #[(0, GAuctionResult.val x)]).run Tryz.prog w = .ok (.slice (some ⟨w.heap.size, 0, none⟩) 1 1) (w.alloc (.cells (GAuctionResult.enc x).toArray 104)) := by
  rw [GAuctionResult.val_eq]; exact run_buildSlice_one ei63 (by decide) x w
theorem kl9 : KeyLaws Tryz.prog 9 ByteArray := keyLaws_string uk9
instance : VEnc GAuctionSale := ⟨GAuctionSale.val, fun a b h => by rw [GAuctionSale.val_eq, GAuctionSale.val_eq] at h; injection h with h; exact Enc.inj _ _ (by simpa using congrArg Array.toList h)⟩

/-! ### map[string]auction.sale -/
theorem um102 : Tryz.prog.underlying 102 = some (.map 9 106) := by kernel_rfl
theorem zv102_106 : zeroT Tryz.prog 106 = some (VEnc.vv (default : GAuctionSale)) := by kernel_rfl
@[go_sem ↓ high] theorem xk_102 (ρ : Operand → Value) (dst : Option Tmp) (x y : Operand) (ok : Bool) (ty : TypeId) (pos : String) (after : Array Edge) (guard : Option (Nat × Bool)) : execOp ρ { dst, op := .lookup 102 x y ok, type := ty, pos, after, guard } = (do pure (.value (← gLookup 102 (ρ x) (ρ y) ok))) := ex_lookup ..
@[go_sem ↓ high] theorem xu_102 (ρ : Operand → Value) (dst : Option Tmp) (x y z : Operand) (ty : TypeId) (pos : String) (after : Array Edge) (guard : Option (Nat × Bool)) : execOp ρ { dst, op := .mapUpdate 102 x y z, type := ty, pos, after, guard } = (do gMapUpdate 102 (ρ x) (ρ y) (ρ z); pure .skip) := ex_mapUpdate ..
@[go_sem ↓ high] theorem lk_102 (w : World) (r : Nat) (k : ByteArray) : (gLookup 102 (.map (some r)) (.string k) false).run Tryz.prog w = ofOpt ((mapAt ByteArray GAuctionSale w r).map fun m => (GAuctionSale.val ((mget m k).getD default))) w (noLookup Tryz.prog 102 (.map (some r)) (.string k) false w) :=
  run_gLookup kl9 um102 zv102_106 w r k
@[go_sem ↓ high] theorem lo_102 (w : World) (r : Nat) (k : ByteArray) : (gLookup 102 (.map (some r)) (.string k) true).run Tryz.prog w = ofOpt ((mapAt ByteArray GAuctionSale w r).map fun m => .tuple #[(GAuctionSale.val ((mget m k).getD default)), .bool (mget m k).isSome]) w (noLookup Tryz.prog 102 (.map (some r)) (.string k) true w) :=
  run_gLookup_ok kl9 um102 zv102_106 w r k
@[go_sem ↓ high] theorem ln_102 (w : World) (k : ByteArray) : (gLookup 102 (.map none) (.string k) false).run Tryz.prog w = .ok (GAuctionSale.val (default : GAuctionSale)) w :=
  run_gLookup_nil kl9 um102 zv102_106 w k
@[go_sem ↓ high] theorem mu_102 (w : World) (r : Nat) (k : ByteArray) (v : GAuctionSale) : (gMapUpdate 102 (.map (some r)) (.string k) (GAuctionSale.val v)).run Tryz.prog w = okU ((mapAt ByteArray GAuctionSale w r).isSome) (mput Tryz.prog 102 w r k v) (noUpdate Tryz.prog 102 (.map (some r)) (.string k) (GAuctionSale.val v) w) :=
  run_gMapUpdate kl9 um102 w r k v
@[go_sem] theorem sz_mput_102 (w : World) (r : Nat) (k : ByteArray) (v : GAuctionSale) (h : (mapAt ByteArray GAuctionSale w r).isSome = true) : (mput Tryz.prog 102 w r k v).heap.size = w.heap.size := by
  obtain ⟨m, hm⟩ := Option.isSome_iff_exists.1 h; exact mput_size kl9 um102 hm k v

end Go.Proofs.YteockodnfempfaaGreatDoor
/- The struct types of this seat as Lean types, with the runs of single operations over them. Conditions: those named in each theorem. -/
namespace Go.Proofs.YteockodnfempfaaGreatDoor
open Go Go.RowKit Go.Gv
set_option linter.unusedSimpArgs false

theorem na56 : aggT Tryz.prog 56 = false := by kernel_rfl
theorem us56 : (Tryz.prog.underlying 56).isSome = true := by kernel_rfl
theorem na58 : aggT Tryz.prog 58 = false := by kernel_rfl
theorem us58 : (Tryz.prog.underlying 58).isSome = true := by kernel_rfl
theorem na110 : aggT Tryz.prog 110 = false := by kernel_rfl
theorem us110 : (Tryz.prog.underlying 110).isSome = true := by kernel_rfl

/-! ### gavel/registry.Registry -/
structure GRegistryRegistry where
  m : Option Nat
deriving DecidableEq
instance : Inhabited GRegistryRegistry := ⟨⟨none⟩⟩
def GRegistryRegistry.enc (x : GRegistryRegistry) : List Value := [(.map x.m)]
theorem GRegistryRegistry.enc_len (x : GRegistryRegistry) : x.enc.length = 1 := by simp [GRegistryRegistry.enc]
theorem GRegistryRegistry.enc_one (x : GRegistryRegistry) : ∀ u ∈ x.enc, u.oneCell' = true := by
  intro u hu
  simp only [GRegistryRegistry.enc, List.mem_append, List.mem_singleton] at hu
  subst hu; rfl
theorem GRegistryRegistry.enc_inj (x y : GRegistryRegistry) (h : x.enc = y.enc) : x = y := by
  obtain ⟨a0⟩ := x
  obtain ⟨b0⟩ := y
  simp only [GRegistryRegistry.enc] at h
  have e0 : a0 = b0 := by have := List.head_eq_of_cons_eq h; injection this
  rw [e0]
instance : Enc GRegistryRegistry where
  n := 1
  enc := GRegistryRegistry.enc
  pos := by omega
  len := GRegistryRegistry.enc_len
  one := GRegistryRegistry.enc_one
  inj := GRegistryRegistry.enc_inj
@[go_sem] theorem GRegistryRegistry.n_eq : Enc.n GRegistryRegistry = 1 := rfl
@[irreducible] def GRegistryRegistry.val (x : GRegistryRegistry) : Value := .agg x.enc.toArray
theorem GRegistryRegistry.val_eq (x : GRegistryRegistry) : GRegistryRegistry.val x = .agg (Enc.enc x).toArray := by unfold GRegistryRegistry.val; rfl
theorem GRegistryRegistry.ext_all (x y : GRegistryRegistry) : x = y ↔ x.m = y.m := by
  constructor
  · intro h; cases h; simp
  · intro h; cases x; cases y; simp_all
theorem uu112 : Tryz.prog.underlying 112 = some (.struct (Tryz.prog.fieldsOf 112)) := by kernel_rfl
theorem st112 : Tryz.prog.stoodInHeld 112 = false := by kernel_rfl
theorem fl112 : fieldTO Tryz.prog 112 = [(110, 0)] := by kernel_rfl
theorem nb112 : noBlank Tryz.prog 112 = true := by kernel_rfl
@[go_sem ↓ high] theorem xl_GRegistryRegistry (ρ : Operand → Value) (dst : Option Tmp) (x : Operand) (ty : TypeId) (pos : String) (after : Array Edge) (guard : Option (Nat × Bool)) : execOp ρ { dst, op := .load 112 x, type := ty, pos, after, guard } = (do pure (.value (← gLoad 112 (ρ x)))) := ex_load ..
@[go_sem ↓ high] theorem xs_GRegistryRegistry (ρ : Operand → Value) (dst : Option Tmp) (x y : Operand) (ty : TypeId) (pos : String) (after : Array Edge) (guard : Option (Nat × Bool)) : execOp ρ { dst, op := .store 112 x y, type := ty, pos, after, guard } = (do gStore 112 (ρ x) (ρ y); pure .skip) := ex_store ..
@[go_sem ↓ high] theorem xb_GRegistryRegistry (ρ : Operand → Value) (dst : Option Tmp) (x : Operand) (ty : TypeId) (pos : String) (after : Array Edge) (guard : Option (Nat × Bool)) : execOp ρ { dst, op := .box 112 x, type := ty, pos, after, guard } = (do pure (.value (← gBox 112 (ρ x)))) := ex_box ..
@[go_sem ↓ high] theorem xa_GRegistryRegistry (ρ : Operand → Value) (dst : Option Tmp) (ty : TypeId) (pos : String) (after : Array Edge) (guard : Option (Nat × Bool)) : execOp ρ { dst, op := .alloc 112, type := ty, pos, after, guard } = (do pure (.value (← gAlloc 112))) := ex_alloc ..
theorem ag112 : aggT Tryz.prog 112 = true := by kernel_rfl
theorem sz112 : sizeT Tryz.prog 112 = 1 := by kernel_rfl
section
variable (w : World)
@[go_sem ↓ high] theorem ld_GRegistryRegistry (a : Addr) : (gLoad 112 (.pointer (some a))).run Tryz.prog w = ofOpt ((get? GRegistryRegistry w a).map GRegistryRegistry.val) w (noLoad Tryz.prog 112 a w) := by
  unfold gLoad; exact run_loadAt_opt ag112 sz112 GRegistryRegistry.val GRegistryRegistry.val_eq
@[go_sem ↓ high] theorem st_GRegistryRegistry (a : Addr) (x : GRegistryRegistry) : (gStore 112 (.pointer (some a)) (GRegistryRegistry.val x)).run Tryz.prog w = okU' ((get? GRegistryRegistry w a).isSome && blkFree w a.block) (World.putCells w a (GRegistryRegistry.enc x)) (noStore Tryz.prog 112 (.pointer (some a)) (GRegistryRegistry.val x) w) := run_gStore_any sz112 GRegistryRegistry.val GRegistryRegistry.val_eq w a x
@[go_sem ↓ high] theorem bx_GRegistryRegistry (x : GRegistryRegistry) : (gBox 112 (GRegistryRegistry.val x)).run Tryz.prog w = .ok (.pointer (some ⟨w.heap.size, 0, none⟩)) (w.alloc (.cells (GRegistryRegistry.enc x).toArray 112)) := by
  rw [GRegistryRegistry.val_eq]; exact run_gBox _ w
end
theorem lk112_0 (x : GRegistryRegistry) : x.enc[0]? = some (.map x.m) := by
  simp [GRegistryRegistry.enc, List.getElem?_append]
theorem pt112_0 (w : World) (x : GRegistryRegistry) : (part 110 x.enc.toArray 0).run Tryz.prog w = .ok (.map x.m) w := run_part_one na110 us110 (lk112_0 x)
@[go_sem ↓ high] theorem fd112_0 (w : World) (x : GRegistryRegistry) : (gField 112 (GRegistryRegistry.val x) 0).run Tryz.prog w = .ok (.map x.m) w := by
  rw [GRegistryRegistry.val_eq]
  exact run_gField w uu112 (by rw [fl112]; rfl) (pt112_0 w x)
@[go_sem ↓ high] theorem xf_GRegistryRegistry (ρ : Operand → Value) (dst : Option Tmp) (x : Operand) (i : Nat) (ty : TypeId) (pos : String) (after : Array Edge) (guard : Option (Nat × Bool)) : execOp ρ { dst, op := .field 112 x i, type := ty, pos, after, guard } = (do pure (.value (← gField 112 (ρ x) i))) := ex_field ..
theorem zr112 : zeroT Tryz.prog 112 = some (.agg (GRegistryRegistry.enc default).toArray) := by kernel_rfl
@[go_sem ↓ high] theorem al_GRegistryRegistry (w : World) : (gAlloc 112).run Tryz.prog w = .ok (.pointer (some ⟨w.heap.size, 0, none⟩)) (w.alloc (.cells (GRegistryRegistry.enc default).toArray 112)) := run_zero_alloc zr112 w
@[go_sem] theorem pc_GRegistryRegistry (w : World) (n : Nat) (x z : GRegistryRegistry) (hn : n = w.heap.size) : World.putCells (w.alloc (.cells (GRegistryRegistry.enc z).toArray 112)) ⟨n, 0, none⟩ (GRegistryRegistry.enc x) = w.alloc (.cells (GRegistryRegistry.enc x).toArray 112) := putCells_top x z hn
theorem GRegistryRegistry.at_m {w : World} {a : Addr} {x : GRegistryRegistry} (h : get? GRegistryRegistry w a = some x) : w.cell? (a.add 0) = some (.map x.m) := (get?_iff.1 h) _ _ (lk112_0 x)
@[go_sem] theorem nl112_0 (x : GRegistryRegistry) : x.enc[0]? = some (.map x.m) := by
  have h := (GRegistryRegistry.at_m (get?_new (w := (default : World)) 112 x))
  simp only [Addr.add_lit, Nat.zero_add, Nat.reduceAdd, World.cell?_alloc_new, List.getElem?_toArray] at h
  exact h
@[go_sem] theorem nw112 (w : World) (n : Nat) (x : GRegistryRegistry) (hn : n = w.heap.size) : get? GRegistryRegistry (w.alloc (.cells (GRegistryRegistry.enc x).toArray 112)) ⟨n, 0, none⟩ = some x := by
  subst hn; exact get?_new 112 x
theorem pl112 : ((Tryz.prog.fieldsOf 112).toList.mapM fun f => (Tryz.prog.info? f.type).map fun i => (f.offset, i.size)) = some [(0, 1)] := by kernel_rfl
theorem fs112_0 (x : GRegistryRegistry) (v : Option Nat) (rest : List (Nat × Value)) : Instr.fill (fun i => ([(0, 1)] : List (Nat × Nat))[i]?) x.enc.toArray ((0, (.map v)) :: rest) = Instr.fill (fun i => ([(0, 1)] : List (Nat × Nat))[i]?) ({ x with m := v } : GRegistryRegistry).enc.toArray rest := by
  have h := fill_seg [(0, 1)] 0 0 1 rfl (([] : List Value)) ([(.map x.m)]) (([] : List Value)) ([(.map v)]) (.map v) rest (rfl) (by simp) (by simp) (by simp)
  have e1 : x.enc = (([] : List Value)) ++ ([(.map x.m)] ++ (([] : List Value))) := by simp [GRegistryRegistry.enc]
  have e2 : ({ x with m := v } : GRegistryRegistry).enc = (([] : List Value)) ++ ([(.map v)] ++ (([] : List Value))) := by simp [GRegistryRegistry.enc]
  rw [e1, e2]; exact h
@[go_sem ↓ high] theorem xd_GRegistryRegistry (ρ : Operand → Value) (dst : Option Tmp) (ps : Array (Nat × Operand)) (ty : TypeId) (pos : String) (after : Array Edge) (guard : Option (Nat × Bool)) : execOp ρ { dst, op := .build 112 ps, type := ty, pos, after, guard } = (do pure (.value (← gBuild 112 (ps.map fun (i, x) => (i, ρ x))))) := ex_build ..
@[go_sem ↓ high] theorem bd112_0 (w : World) (v0 : Option Nat) : (gBuild 112 #[(0, (.map v0))]).run Tryz.prog w = .ok (GRegistryRegistry.val ⟨v0⟩) w := by
  rw [GRegistryRegistry.val_eq]
  refine run_gBuild_of uu112 zr112 pl112 ?_ w
  show Instr.fill _ (GRegistryRegistry.enc default).toArray [(0, (.map v0))] = _
  rw [fs112_0]; rfl

/-! ### gavel/app.App -/
structure GAppApp where
  h : Option Addr
  r : Option Addr
  n : Int
deriving DecidableEq
instance : Inhabited GAppApp := ⟨⟨none, none, 0⟩⟩
def GAppApp.enc (x : GAppApp) : List Value := [(.pointer x.h)] ++ ([(.pointer x.r)] ++ ([(.int .i64 x.n)]))
theorem GAppApp.enc_len (x : GAppApp) : x.enc.length = 3 := by simp [GAppApp.enc]
theorem GAppApp.enc_one (x : GAppApp) : ∀ u ∈ x.enc, u.oneCell' = true := by
  intro u hu
  simp only [GAppApp.enc, List.mem_append, List.mem_singleton] at hu
  rcases hu with hu | hu | hu
  · subst hu; rfl
  · subst hu; rfl
  · subst hu; rfl
theorem GAppApp.enc_inj (x y : GAppApp) (h : x.enc = y.enc) : x = y := by
  obtain ⟨a0, a1, a2⟩ := x
  obtain ⟨b0, b1, b2⟩ := y
  simp only [GAppApp.enc] at h
  obtain ⟨p0, q0⟩ := List.append_inj h (rfl)
  have e0 : a0 = b0 := by have := List.head_eq_of_cons_eq p0; injection this
  obtain ⟨p1, q1⟩ := List.append_inj q0 (rfl)
  have e1 : a1 = b1 := by have := List.head_eq_of_cons_eq p1; injection this
  have e2 : a2 = b2 := by have := List.head_eq_of_cons_eq q1; injection this
  rw [e0, e1, e2]
instance : Enc GAppApp where
  n := 3
  enc := GAppApp.enc
  pos := by omega
  len := GAppApp.enc_len
  one := GAppApp.enc_one
  inj := GAppApp.enc_inj
@[go_sem] theorem GAppApp.n_eq : Enc.n GAppApp = 3 := rfl
@[irreducible] def GAppApp.val (x : GAppApp) : Value := .agg x.enc.toArray
theorem GAppApp.val_eq (x : GAppApp) : GAppApp.val x = .agg (Enc.enc x).toArray := by unfold GAppApp.val; rfl
theorem GAppApp.ext_all (x y : GAppApp) : x = y ↔ x.h = y.h ∧ x.r = y.r ∧ x.n = y.n := by
  constructor
  · intro h; cases h; simp
  · intro h; cases x; cases y; simp_all
theorem uu70 : Tryz.prog.underlying 70 = some (.struct (Tryz.prog.fieldsOf 70)) := by kernel_rfl
theorem st70 : Tryz.prog.stoodInHeld 70 = false := by kernel_rfl
theorem fl70 : fieldTO Tryz.prog 70 = [(56, 0), (58, 1), (3, 2)] := by kernel_rfl
theorem nb70 : noBlank Tryz.prog 70 = true := by kernel_rfl
@[go_sem ↓ high] theorem xl_GAppApp (ρ : Operand → Value) (dst : Option Tmp) (x : Operand) (ty : TypeId) (pos : String) (after : Array Edge) (guard : Option (Nat × Bool)) : execOp ρ { dst, op := .load 70 x, type := ty, pos, after, guard } = (do pure (.value (← gLoad 70 (ρ x)))) := ex_load ..
@[go_sem ↓ high] theorem xs_GAppApp (ρ : Operand → Value) (dst : Option Tmp) (x y : Operand) (ty : TypeId) (pos : String) (after : Array Edge) (guard : Option (Nat × Bool)) : execOp ρ { dst, op := .store 70 x y, type := ty, pos, after, guard } = (do gStore 70 (ρ x) (ρ y); pure .skip) := ex_store ..
@[go_sem ↓ high] theorem xb_GAppApp (ρ : Operand → Value) (dst : Option Tmp) (x : Operand) (ty : TypeId) (pos : String) (after : Array Edge) (guard : Option (Nat × Bool)) : execOp ρ { dst, op := .box 70 x, type := ty, pos, after, guard } = (do pure (.value (← gBox 70 (ρ x)))) := ex_box ..
@[go_sem ↓ high] theorem xa_GAppApp (ρ : Operand → Value) (dst : Option Tmp) (ty : TypeId) (pos : String) (after : Array Edge) (guard : Option (Nat × Bool)) : execOp ρ { dst, op := .alloc 70, type := ty, pos, after, guard } = (do pure (.value (← gAlloc 70))) := ex_alloc ..
theorem ag70 : aggT Tryz.prog 70 = true := by kernel_rfl
theorem sz70 : sizeT Tryz.prog 70 = 3 := by kernel_rfl
section
variable (w : World)
@[go_sem ↓ high] theorem ld_GAppApp (a : Addr) : (gLoad 70 (.pointer (some a))).run Tryz.prog w = ofOpt ((get? GAppApp w a).map GAppApp.val) w (noLoad Tryz.prog 70 a w) := by
  unfold gLoad; exact run_loadAt_opt ag70 sz70 GAppApp.val GAppApp.val_eq
@[go_sem ↓ high] theorem st_GAppApp (a : Addr) (x : GAppApp) : (gStore 70 (.pointer (some a)) (GAppApp.val x)).run Tryz.prog w = okU' ((get? GAppApp w a).isSome && blkFree w a.block) (World.putCells w a (GAppApp.enc x)) (noStore Tryz.prog 70 (.pointer (some a)) (GAppApp.val x) w) := run_gStore_any sz70 GAppApp.val GAppApp.val_eq w a x
@[go_sem ↓ high] theorem bx_GAppApp (x : GAppApp) : (gBox 70 (GAppApp.val x)).run Tryz.prog w = .ok (.pointer (some ⟨w.heap.size, 0, none⟩)) (w.alloc (.cells (GAppApp.enc x).toArray 70)) := by
  rw [GAppApp.val_eq]; exact run_gBox _ w
end
theorem lk70_0 (x : GAppApp) : x.enc[0]? = some (.pointer x.h) := by
  simp [GAppApp.enc, List.getElem?_append]
theorem pt70_0 (w : World) (x : GAppApp) : (part 56 x.enc.toArray 0).run Tryz.prog w = .ok (.pointer x.h) w := run_part_one na56 us56 (lk70_0 x)
@[go_sem ↓ high] theorem fd70_0 (w : World) (x : GAppApp) : (gField 70 (GAppApp.val x) 0).run Tryz.prog w = .ok (.pointer x.h) w := by
  rw [GAppApp.val_eq]
  exact run_gField w uu70 (by rw [fl70]; rfl) (pt70_0 w x)
theorem lk70_1 (x : GAppApp) : x.enc[1]? = some (.pointer x.r) := by
  simp [GAppApp.enc, List.getElem?_append]
theorem pt70_1 (w : World) (x : GAppApp) : (part 58 x.enc.toArray 1).run Tryz.prog w = .ok (.pointer x.r) w := run_part_one na58 us58 (lk70_1 x)
@[go_sem ↓ high] theorem fd70_1 (w : World) (x : GAppApp) : (gField 70 (GAppApp.val x) 1).run Tryz.prog w = .ok (.pointer x.r) w := by
  rw [GAppApp.val_eq]
  exact run_gField w uu70 (by rw [fl70]; rfl) (pt70_1 w x)
theorem lk70_2 (x : GAppApp) : x.enc[2]? = some (.int .i64 x.n) := by
  simp [GAppApp.enc, List.getElem?_append]
theorem pt70_2 (w : World) (x : GAppApp) : (part 3 x.enc.toArray 2).run Tryz.prog w = .ok (.int .i64 x.n) w := run_part_one na3 us3 (lk70_2 x)
@[go_sem ↓ high] theorem fd70_2 (w : World) (x : GAppApp) : (gField 70 (GAppApp.val x) 2).run Tryz.prog w = .ok (.int .i64 x.n) w := by
  rw [GAppApp.val_eq]
  exact run_gField w uu70 (by rw [fl70]; rfl) (pt70_2 w x)
@[go_sem ↓ high] theorem xf_GAppApp (ρ : Operand → Value) (dst : Option Tmp) (x : Operand) (i : Nat) (ty : TypeId) (pos : String) (after : Array Edge) (guard : Option (Nat × Bool)) : execOp ρ { dst, op := .field 70 x i, type := ty, pos, after, guard } = (do pure (.value (← gField 70 (ρ x) i))) := ex_field ..
theorem zr70 : zeroT Tryz.prog 70 = some (.agg (GAppApp.enc default).toArray) := by kernel_rfl
@[go_sem ↓ high] theorem al_GAppApp (w : World) : (gAlloc 70).run Tryz.prog w = .ok (.pointer (some ⟨w.heap.size, 0, none⟩)) (w.alloc (.cells (GAppApp.enc default).toArray 70)) := run_zero_alloc zr70 w
@[go_sem] theorem pc_GAppApp (w : World) (n : Nat) (x z : GAppApp) (hn : n = w.heap.size) : World.putCells (w.alloc (.cells (GAppApp.enc z).toArray 70)) ⟨n, 0, none⟩ (GAppApp.enc x) = w.alloc (.cells (GAppApp.enc x).toArray 70) := putCells_top x z hn
theorem GAppApp.at_h {w : World} {a : Addr} {x : GAppApp} (h : get? GAppApp w a = some x) : w.cell? (a.add 0) = some (.pointer x.h) := (get?_iff.1 h) _ _ (lk70_0 x)
theorem GAppApp.at_r {w : World} {a : Addr} {x : GAppApp} (h : get? GAppApp w a = some x) : w.cell? (a.add 1) = some (.pointer x.r) := (get?_iff.1 h) _ _ (lk70_1 x)
theorem GAppApp.at_n {w : World} {a : Addr} {x : GAppApp} (h : get? GAppApp w a = some x) : w.cell? (a.add 2) = some (.int .i64 x.n) := (get?_iff.1 h) _ _ (lk70_2 x)
@[go_sem] theorem nl70_0 (x : GAppApp) : x.enc[0]? = some (.pointer x.h) := by
  have h := (GAppApp.at_h (get?_new (w := (default : World)) 70 x))
  simp only [Addr.add_lit, Nat.zero_add, Nat.reduceAdd, World.cell?_alloc_new, List.getElem?_toArray] at h
  exact h
@[go_sem] theorem nl70_1 (x : GAppApp) : x.enc[1]? = some (.pointer x.r) := by
  have h := (GAppApp.at_r (get?_new (w := (default : World)) 70 x))
  simp only [Addr.add_lit, Nat.zero_add, Nat.reduceAdd, World.cell?_alloc_new, List.getElem?_toArray] at h
  exact h
@[go_sem] theorem nl70_2 (x : GAppApp) : x.enc[2]? = some (.int .i64 x.n) := by
  have h := (GAppApp.at_n (get?_new (w := (default : World)) 70 x))
  simp only [Addr.add_lit, Nat.zero_add, Nat.reduceAdd, World.cell?_alloc_new, List.getElem?_toArray] at h
  exact h
@[go_sem] theorem nw70 (w : World) (n : Nat) (x : GAppApp) (hn : n = w.heap.size) : get? GAppApp (w.alloc (.cells (GAppApp.enc x).toArray 70)) ⟨n, 0, none⟩ = some x := by
  subst hn; exact get?_new 70 x
theorem pl70 : ((Tryz.prog.fieldsOf 70).toList.mapM fun f => (Tryz.prog.info? f.type).map fun i => (f.offset, i.size)) = some [(0, 1), (1, 1), (2, 1)] := by kernel_rfl
theorem fs70_0 (x : GAppApp) (v : Option Addr) (rest : List (Nat × Value)) : Instr.fill (fun i => ([(0, 1), (1, 1), (2, 1)] : List (Nat × Nat))[i]?) x.enc.toArray ((0, (.pointer v)) :: rest) = Instr.fill (fun i => ([(0, 1), (1, 1), (2, 1)] : List (Nat × Nat))[i]?) ({ x with h := v } : GAppApp).enc.toArray rest := by
  have h := fill_seg [(0, 1), (1, 1), (2, 1)] 0 0 1 rfl (([] : List Value)) ([(.pointer x.h)]) ([(.pointer x.r)] ++ ([(.int .i64 x.n)] ++ (([] : List Value)))) ([(.pointer v)]) (.pointer v) rest (rfl) (by simp) (by simp) (by simp)
  have e1 : x.enc = (([] : List Value)) ++ ([(.pointer x.h)] ++ ([(.pointer x.r)] ++ ([(.int .i64 x.n)] ++ (([] : List Value))))) := by simp [GAppApp.enc]
  have e2 : ({ x with h := v } : GAppApp).enc = (([] : List Value)) ++ ([(.pointer v)] ++ ([(.pointer x.r)] ++ ([(.int .i64 x.n)] ++ (([] : List Value))))) := by simp [GAppApp.enc]
  rw [e1, e2]; exact h
theorem fs70_1 (x : GAppApp) (v : Option Addr) (rest : List (Nat × Value)) : Instr.fill (fun i => ([(0, 1), (1, 1), (2, 1)] : List (Nat × Nat))[i]?) x.enc.toArray ((1, (.pointer v)) :: rest) = Instr.fill (fun i => ([(0, 1), (1, 1), (2, 1)] : List (Nat × Nat))[i]?) ({ x with r := v } : GAppApp).enc.toArray rest := by
  have h := fill_seg [(0, 1), (1, 1), (2, 1)] 1 1 1 rfl (([] : List Value) ++ ([(.pointer x.h)])) ([(.pointer x.r)]) ([(.int .i64 x.n)] ++ (([] : List Value))) ([(.pointer v)]) (.pointer v) rest (rfl) (by simp) (by simp) (by simp)
  have e1 : x.enc = (([] : List Value) ++ ([(.pointer x.h)])) ++ ([(.pointer x.r)] ++ ([(.int .i64 x.n)] ++ (([] : List Value)))) := by simp [GAppApp.enc]
  have e2 : ({ x with r := v } : GAppApp).enc = (([] : List Value) ++ ([(.pointer x.h)])) ++ ([(.pointer v)] ++ ([(.int .i64 x.n)] ++ (([] : List Value)))) := by simp [GAppApp.enc]
  rw [e1, e2]; exact h
theorem fs70_2 (x : GAppApp) (v : Int) (rest : List (Nat × Value)) : Instr.fill (fun i => ([(0, 1), (1, 1), (2, 1)] : List (Nat × Nat))[i]?) x.enc.toArray ((2, (.int .i64 v)) :: rest) = Instr.fill (fun i => ([(0, 1), (1, 1), (2, 1)] : List (Nat × Nat))[i]?) ({ x with n := v } : GAppApp).enc.toArray rest := by
  have h := fill_seg [(0, 1), (1, 1), (2, 1)] 2 2 1 rfl (([] : List Value) ++ ([(.pointer x.h)] ++ ([(.pointer x.r)]))) ([(.int .i64 x.n)]) (([] : List Value)) ([(.int .i64 v)]) (.int .i64 v) rest (rfl) (by simp) (by simp) (by simp)
  have e1 : x.enc = (([] : List Value) ++ ([(.pointer x.h)] ++ ([(.pointer x.r)]))) ++ ([(.int .i64 x.n)] ++ (([] : List Value))) := by simp [GAppApp.enc]
  have e2 : ({ x with n := v } : GAppApp).enc = (([] : List Value) ++ ([(.pointer x.h)] ++ ([(.pointer x.r)]))) ++ ([(.int .i64 v)] ++ (([] : List Value))) := by simp [GAppApp.enc]
  rw [e1, e2]; exact h
@[go_sem ↓ high] theorem xd_GAppApp (ρ : Operand → Value) (dst : Option Tmp) (ps : Array (Nat × Operand)) (ty : TypeId) (pos : String) (after : Array Edge) (guard : Option (Nat × Bool)) : execOp ρ { dst, op := .build 70 ps, type := ty, pos, after, guard } = (do pure (.value (← gBuild 70 (ps.map fun (i, x) => (i, ρ x))))) := ex_build ..
@[go_sem ↓ high] theorem bd70_0 (w : World) (v0 : Option Addr) (v1 : Option Addr) : (gBuild 70 #[(0, (.pointer v0)), (1, (.pointer v1))]).run Tryz.prog w = .ok (GAppApp.val ⟨v0, v1, 0⟩) w := by
  rw [GAppApp.val_eq]
  refine run_gBuild_of uu70 zr70 pl70 ?_ w
  show Instr.fill _ (GAppApp.enc default).toArray [(0, (.pointer v0)), (1, (.pointer v1))] = _
  rw [fs70_0, fs70_1]; rfl
@[go_sem ↓ high] theorem bd70_1 (w : World) (v0 : Option Addr) (v1 : Option Addr) (v2 : Int) : (gBuild 70 #[(0, (.pointer v0)), (1, (.pointer v1)), (2, (.int .i64 v2))]).run Tryz.prog w = .ok (GAppApp.val ⟨v0, v1, v2⟩) w := by
  rw [GAppApp.val_eq]
  refine run_gBuild_of uu70 zr70 pl70 ?_ w
  show Instr.fill _ (GAppApp.enc default).toArray [(0, (.pointer v0)), (1, (.pointer v1)), (2, (.int .i64 v2))] = _
  rw [fs70_0, fs70_1, fs70_2]; rfl

/-! ### gavel/gavellaw19.Act -/
structure GLaw19Act where
  client : Int
  time : Int
  payload : ByteArray
  bury : Bool
deriving DecidableEq
instance : Inhabited GLaw19Act := ⟨⟨0, 0, ByteArray.empty, false⟩⟩
def GLaw19Act.enc (x : GLaw19Act) : List Value := [(.int .i64 x.client)] ++ ([(.int .u64 x.time)] ++ ([(.string x.payload)] ++ ([(.bool x.bury)])))
theorem GLaw19Act.enc_len (x : GLaw19Act) : x.enc.length = 4 := by simp [GLaw19Act.enc]
theorem GLaw19Act.enc_one (x : GLaw19Act) : ∀ u ∈ x.enc, u.oneCell' = true := by
  intro u hu
  simp only [GLaw19Act.enc, List.mem_append, List.mem_singleton] at hu
  rcases hu with hu | hu | hu | hu
  · subst hu; rfl
  · subst hu; rfl
  · subst hu; rfl
  · subst hu; rfl
theorem GLaw19Act.enc_inj (x y : GLaw19Act) (h : x.enc = y.enc) : x = y := by
  obtain ⟨a0, a1, a2, a3⟩ := x
  obtain ⟨b0, b1, b2, b3⟩ := y
  simp only [GLaw19Act.enc] at h
  obtain ⟨p0, q0⟩ := List.append_inj h (rfl)
  have e0 : a0 = b0 := by have := List.head_eq_of_cons_eq p0; injection this
  obtain ⟨p1, q1⟩ := List.append_inj q0 (rfl)
  have e1 : a1 = b1 := by have := List.head_eq_of_cons_eq p1; injection this
  obtain ⟨p2, q2⟩ := List.append_inj q1 (rfl)
  have e2 : a2 = b2 := by have := List.head_eq_of_cons_eq p2; injection this
  have e3 : a3 = b3 := by have := List.head_eq_of_cons_eq q2; injection this
  rw [e0, e1, e2, e3]
instance : Enc GLaw19Act where
  n := 4
  enc := GLaw19Act.enc
  pos := by omega
  len := GLaw19Act.enc_len
  one := GLaw19Act.enc_one
  inj := GLaw19Act.enc_inj
@[go_sem] theorem GLaw19Act.n_eq : Enc.n GLaw19Act = 4 := rfl
@[irreducible] def GLaw19Act.val (x : GLaw19Act) : Value := .agg x.enc.toArray
theorem GLaw19Act.val_eq (x : GLaw19Act) : GLaw19Act.val x = .agg (Enc.enc x).toArray := by unfold GLaw19Act.val; rfl
theorem GLaw19Act.ext_all (x y : GLaw19Act) : x = y ↔ x.client = y.client ∧ x.time = y.time ∧ x.payload = y.payload ∧ x.bury = y.bury := by
  constructor
  · intro h; cases h; simp
  · intro h; cases x; cases y; simp_all
theorem uu28 : Tryz.prog.underlying 28 = some (.struct (Tryz.prog.fieldsOf 28)) := by kernel_rfl
theorem st28 : Tryz.prog.stoodInHeld 28 = false := by kernel_rfl
theorem fl28 : fieldTO Tryz.prog 28 = [(3, 0), (26, 1), (9, 2), (4, 3)] := by kernel_rfl
theorem nb28 : noBlank Tryz.prog 28 = true := by kernel_rfl
@[go_sem ↓ high] theorem xl_GLaw19Act (ρ : Operand → Value) (dst : Option Tmp) (x : Operand) (ty : TypeId) (pos : String) (after : Array Edge) (guard : Option (Nat × Bool)) : execOp ρ { dst, op := .load 28 x, type := ty, pos, after, guard } = (do pure (.value (← gLoad 28 (ρ x)))) := ex_load ..
@[go_sem ↓ high] theorem xs_GLaw19Act (ρ : Operand → Value) (dst : Option Tmp) (x y : Operand) (ty : TypeId) (pos : String) (after : Array Edge) (guard : Option (Nat × Bool)) : execOp ρ { dst, op := .store 28 x y, type := ty, pos, after, guard } = (do gStore 28 (ρ x) (ρ y); pure .skip) := ex_store ..
@[go_sem ↓ high] theorem xb_GLaw19Act (ρ : Operand → Value) (dst : Option Tmp) (x : Operand) (ty : TypeId) (pos : String) (after : Array Edge) (guard : Option (Nat × Bool)) : execOp ρ { dst, op := .box 28 x, type := ty, pos, after, guard } = (do pure (.value (← gBox 28 (ρ x)))) := ex_box ..
@[go_sem ↓ high] theorem xa_GLaw19Act (ρ : Operand → Value) (dst : Option Tmp) (ty : TypeId) (pos : String) (after : Array Edge) (guard : Option (Nat × Bool)) : execOp ρ { dst, op := .alloc 28, type := ty, pos, after, guard } = (do pure (.value (← gAlloc 28))) := ex_alloc ..
theorem ag28 : aggT Tryz.prog 28 = true := by kernel_rfl
theorem sz28 : sizeT Tryz.prog 28 = 4 := by kernel_rfl
section
variable (w : World)
@[go_sem ↓ high] theorem ld_GLaw19Act (a : Addr) : (gLoad 28 (.pointer (some a))).run Tryz.prog w = ofOpt ((get? GLaw19Act w a).map GLaw19Act.val) w (noLoad Tryz.prog 28 a w) := by
  unfold gLoad; exact run_loadAt_opt ag28 sz28 GLaw19Act.val GLaw19Act.val_eq
@[go_sem ↓ high] theorem st_GLaw19Act (a : Addr) (x : GLaw19Act) : (gStore 28 (.pointer (some a)) (GLaw19Act.val x)).run Tryz.prog w = okU' ((get? GLaw19Act w a).isSome && blkFree w a.block) (World.putCells w a (GLaw19Act.enc x)) (noStore Tryz.prog 28 (.pointer (some a)) (GLaw19Act.val x) w) := run_gStore_any sz28 GLaw19Act.val GLaw19Act.val_eq w a x
@[go_sem ↓ high] theorem bx_GLaw19Act (x : GLaw19Act) : (gBox 28 (GLaw19Act.val x)).run Tryz.prog w = .ok (.pointer (some ⟨w.heap.size, 0, none⟩)) (w.alloc (.cells (GLaw19Act.enc x).toArray 28)) := by
  rw [GLaw19Act.val_eq]; exact run_gBox _ w
end
theorem lk28_0 (x : GLaw19Act) : x.enc[0]? = some (.int .i64 x.client) := by
  simp [GLaw19Act.enc, List.getElem?_append]
theorem pt28_0 (w : World) (x : GLaw19Act) : (part 3 x.enc.toArray 0).run Tryz.prog w = .ok (.int .i64 x.client) w := run_part_one na3 us3 (lk28_0 x)
@[go_sem ↓ high] theorem fd28_0 (w : World) (x : GLaw19Act) : (gField 28 (GLaw19Act.val x) 0).run Tryz.prog w = .ok (.int .i64 x.client) w := by
  rw [GLaw19Act.val_eq]
  exact run_gField w uu28 (by rw [fl28]; rfl) (pt28_0 w x)
theorem lk28_1 (x : GLaw19Act) : x.enc[1]? = some (.int .u64 x.time) := by
  simp [GLaw19Act.enc, List.getElem?_append]
theorem pt28_1 (w : World) (x : GLaw19Act) : (part 26 x.enc.toArray 1).run Tryz.prog w = .ok (.int .u64 x.time) w := run_part_one na26 us26 (lk28_1 x)
@[go_sem ↓ high] theorem fd28_1 (w : World) (x : GLaw19Act) : (gField 28 (GLaw19Act.val x) 1).run Tryz.prog w = .ok (.int .u64 x.time) w := by
  rw [GLaw19Act.val_eq]
  exact run_gField w uu28 (by rw [fl28]; rfl) (pt28_1 w x)
theorem lk28_2 (x : GLaw19Act) : x.enc[2]? = some (.string x.payload) := by
  simp [GLaw19Act.enc, List.getElem?_append]
theorem pt28_2 (w : World) (x : GLaw19Act) : (part 9 x.enc.toArray 2).run Tryz.prog w = .ok (.string x.payload) w := run_part_one na9 us9 (lk28_2 x)
@[go_sem ↓ high] theorem fd28_2 (w : World) (x : GLaw19Act) : (gField 28 (GLaw19Act.val x) 2).run Tryz.prog w = .ok (.string x.payload) w := by
  rw [GLaw19Act.val_eq]
  exact run_gField w uu28 (by rw [fl28]; rfl) (pt28_2 w x)
theorem lk28_3 (x : GLaw19Act) : x.enc[3]? = some (.bool x.bury) := by
  simp [GLaw19Act.enc, List.getElem?_append]
theorem pt28_3 (w : World) (x : GLaw19Act) : (part 4 x.enc.toArray 3).run Tryz.prog w = .ok (.bool x.bury) w := run_part_one na4 us4 (lk28_3 x)
@[go_sem ↓ high] theorem fd28_3 (w : World) (x : GLaw19Act) : (gField 28 (GLaw19Act.val x) 3).run Tryz.prog w = .ok (.bool x.bury) w := by
  rw [GLaw19Act.val_eq]
  exact run_gField w uu28 (by rw [fl28]; rfl) (pt28_3 w x)
@[go_sem ↓ high] theorem xf_GLaw19Act (ρ : Operand → Value) (dst : Option Tmp) (x : Operand) (i : Nat) (ty : TypeId) (pos : String) (after : Array Edge) (guard : Option (Nat × Bool)) : execOp ρ { dst, op := .field 28 x i, type := ty, pos, after, guard } = (do pure (.value (← gField 28 (ρ x) i))) := ex_field ..
theorem zr28 : zeroT Tryz.prog 28 = some (.agg (GLaw19Act.enc default).toArray) := by kernel_rfl
@[go_sem ↓ high] theorem al_GLaw19Act (w : World) : (gAlloc 28).run Tryz.prog w = .ok (.pointer (some ⟨w.heap.size, 0, none⟩)) (w.alloc (.cells (GLaw19Act.enc default).toArray 28)) := run_zero_alloc zr28 w
@[go_sem] theorem pc_GLaw19Act (w : World) (n : Nat) (x z : GLaw19Act) (hn : n = w.heap.size) : World.putCells (w.alloc (.cells (GLaw19Act.enc z).toArray 28)) ⟨n, 0, none⟩ (GLaw19Act.enc x) = w.alloc (.cells (GLaw19Act.enc x).toArray 28) := putCells_top x z hn
theorem GLaw19Act.at_client {w : World} {a : Addr} {x : GLaw19Act} (h : get? GLaw19Act w a = some x) : w.cell? (a.add 0) = some (.int .i64 x.client) := (get?_iff.1 h) _ _ (lk28_0 x)
theorem GLaw19Act.at_time {w : World} {a : Addr} {x : GLaw19Act} (h : get? GLaw19Act w a = some x) : w.cell? (a.add 1) = some (.int .u64 x.time) := (get?_iff.1 h) _ _ (lk28_1 x)
theorem GLaw19Act.at_payload {w : World} {a : Addr} {x : GLaw19Act} (h : get? GLaw19Act w a = some x) : w.cell? (a.add 2) = some (.string x.payload) := (get?_iff.1 h) _ _ (lk28_2 x)
theorem GLaw19Act.at_bury {w : World} {a : Addr} {x : GLaw19Act} (h : get? GLaw19Act w a = some x) : w.cell? (a.add 3) = some (.bool x.bury) := (get?_iff.1 h) _ _ (lk28_3 x)
@[go_sem] theorem nl28_0 (x : GLaw19Act) : x.enc[0]? = some (.int .i64 x.client) := by
  have h := (GLaw19Act.at_client (get?_new (w := (default : World)) 28 x))
  simp only [Addr.add_lit, Nat.zero_add, Nat.reduceAdd, World.cell?_alloc_new, List.getElem?_toArray] at h
  exact h
@[go_sem] theorem nl28_1 (x : GLaw19Act) : x.enc[1]? = some (.int .u64 x.time) := by
  have h := (GLaw19Act.at_time (get?_new (w := (default : World)) 28 x))
  simp only [Addr.add_lit, Nat.zero_add, Nat.reduceAdd, World.cell?_alloc_new, List.getElem?_toArray] at h
  exact h
@[go_sem] theorem nl28_2 (x : GLaw19Act) : x.enc[2]? = some (.string x.payload) := by
  have h := (GLaw19Act.at_payload (get?_new (w := (default : World)) 28 x))
  simp only [Addr.add_lit, Nat.zero_add, Nat.reduceAdd, World.cell?_alloc_new, List.getElem?_toArray] at h
  exact h
@[go_sem] theorem nl28_3 (x : GLaw19Act) : x.enc[3]? = some (.bool x.bury) := by
  have h := (GLaw19Act.at_bury (get?_new (w := (default : World)) 28 x))
  simp only [Addr.add_lit, Nat.zero_add, Nat.reduceAdd, World.cell?_alloc_new, List.getElem?_toArray] at h
  exact h
@[go_sem] theorem nw28 (w : World) (n : Nat) (x : GLaw19Act) (hn : n = w.heap.size) : get? GLaw19Act (w.alloc (.cells (GLaw19Act.enc x).toArray 28)) ⟨n, 0, none⟩ = some x := by
  subst hn; exact get?_new 28 x
theorem eq_GLaw19Act (w : World) (d : Nat) (x y : GLaw19Act) : (Op.equalIn (d + 2) 28 (GLaw19Act.val x) (GLaw19Act.val y)).run Tryz.prog w = .ok (decide (x = y)) w := by
  have q0 : ∀ a b, (Op.equalIn (d + 1) 3 (.int .i64 a) (.int .i64 b)).run Tryz.prog w = .ok (decide (a = b)) w := fun a b => by rw [run_equalIn_int w (d + 0) 3 .i64 .i64 a b uk3]; congr 1
  have q1 : ∀ a b, (Op.equalIn (d + 1) 26 (.int .u64 a) (.int .u64 b)).run Tryz.prog w = .ok (decide (a = b)) w := fun a b => by rw [run_equalIn_int w (d + 0) 26 .u64 .u64 a b uk26]; congr 1
  have q2 : ∀ a b, (Op.equalIn (d + 1) 9 (.string a) (.string b)).run Tryz.prog w = .ok (decide (a = b)) w := fun a b => by rw [run_equalIn_string w (d + 0) 9 a b uk9, bytes_beq]
  have q3 : ∀ a b, (Op.equalIn (d + 1) 4 (.bool a) (.bool b)).run Tryz.prog w = .ok (decide (a = b)) w := fun a b => by rw [run_equalIn_bool' w (d + 0) 4 a b uk4]; cases a <;> cases b <;> rfl
  have h := run_equalIn_fields (d + 1) x.enc.toArray y.enc.toArray w uu28 st28 nb28
  rw [fl28] at h
  unfold GLaw19Act.val
  refine h.trans ?_
  clear h
  simp only [eqFs, Sem.run_bind, pt28_0, pt28_1, pt28_2, pt28_3, q0, q1, q2, q3, Result.andThen_ok, Sem.run_ite, Sem.run_pure]
  have he : decide (x = y) = (decide (x.client = y.client) && (decide (x.time = y.time) && (decide (x.payload = y.payload) && (decide (x.bury = y.bury))))) := by
    rw [Bool.eq_iff_iff]; simp only [Bool.and_eq_true, decide_eq_true_eq]; exact GLaw19Act.ext_all x y
  rw [he]
  generalize decide (x.client = y.client) = c0; generalize decide (x.time = y.time) = c1; generalize decide (x.payload = y.payload) = c2; generalize decide (x.bury = y.bury) = c3
  cases c0 <;> cases c1 <;> cases c2 <;> cases c3 <;> simp
@[go_sem ↓ high] theorem xq_GLaw19Act (ρ : Operand → Value) (dst : Option Tmp) (x y : Operand) (ty yt : TypeId) (pos : String) (after : Array Edge) (guard : Option (Nat × Bool)) : execOp ρ { dst, op := .binOp .eql 28 x y yt, type := ty, pos, after, guard } = (do pure (.value (← gBin .eql 28 x y (ρ x) (ρ y)))) := ex_eql ..
@[go_sem ↓ high] theorem xn_GLaw19Act (ρ : Operand → Value) (dst : Option Tmp) (x y : Operand) (ty yt : TypeId) (pos : String) (after : Array Edge) (guard : Option (Nat × Bool)) : execOp ρ { dst, op := .binOp .neq 28 x y yt, type := ty, pos, after, guard } = (do pure (.value (← gBin .neq 28 x y (ρ x) (ρ y)))) := ex_neq ..
theorem eg_GLaw19Act : Tryz.prog.eqGuardType Tryz.prog.depth 28 = false := by kernel_rfl
@[go_sem ↓ high] theorem eql_GLaw19Act (w : World) (ox oy : Operand) (x y : GLaw19Act) : (gBin .eql 28 ox oy (GLaw19Act.val x) (GLaw19Act.val y)).run Tryz.prog w = .ok (.bool (decide (x = y))) w := by
  have h2 := eq_GLaw19Act w 9998 x y
  rw [GLaw19Act.val_eq, GLaw19Act.val_eq] at h2 ⊢
  have h := run_eqGuard_agg (P := Tryz.prog) w .eql 28 ox oy (Enc.enc x).toArray (Enc.enc y).toArray eg_GLaw19Act
  unfold gBin
  simp only [Sem.run_bind, h, Result.andThen_ok, run_eql_struct, h2]
@[go_sem ↓ high] theorem neq_GLaw19Act (w : World) (ox oy : Operand) (x y : GLaw19Act) : (gBin .neq 28 ox oy (GLaw19Act.val x) (GLaw19Act.val y)).run Tryz.prog w = .ok (.bool (!decide (x = y))) w := by
  have h2 := eq_GLaw19Act w 9998 x y
  rw [GLaw19Act.val_eq, GLaw19Act.val_eq] at h2 ⊢
  have h := run_eqGuard_agg (P := Tryz.prog) w .neq 28 ox oy (Enc.enc x).toArray (Enc.enc y).toArray eg_GLaw19Act
  unfold gBin
  simp only [Sem.run_bind, h, Result.andThen_ok, run_neq_struct, h2]
/-! ### []string -/
theorem ei48 : ElemI Tryz.prog 48 9 StrV 16 := ⟨by kernel_rfl, by kernel_rfl⟩
/-! ### []gavellaw19.Act -/
theorem ei22 : ElemI Tryz.prog 22 28 GLaw19Act 40 := ⟨by kernel_rfl, by kernel_rfl⟩
@[go_sem ↓ high] theorem xg_22 (ρ : Operand → Value) (dst : Option Tmp) (ps : Array (Nat × Operand)) (ty : TypeId) (pos : String) (after : Array Edge) (guard : Option (Nat × Bool)) : execOp ρ { dst, op := .buildSlice 22 1 ps, type := ty, pos, after, guard } = (do pure (.value (← gBuildSlice 22 1 (ps.map fun (i, x) => (i, ρ x))))) := ex_buildSlice ..
@[go_sem ↓ high] theorem bs_22 (w : World) (x : GLaw19Act) : (gBuildSlice 22 1 #[(0, GLaw19Act.val x)]).run Tryz.prog w = .ok (.slice (some ⟨w.heap.size, 0, none⟩) 1 1) (w.alloc (.cells (GLaw19Act.enc x).toArray 28)) := by
  rw [GLaw19Act.val_eq]; exact run_buildSlice_one ei22 (by decide) x w

/-! ### map[string]int -/
theorem um110 : Tryz.prog.underlying 110 = some (.map 9 3) := by kernel_rfl
theorem zv110_3 : zeroT Tryz.prog 3 = some (VEnc.vv (0 : Int)) := by kernel_rfl
@[go_sem ↓ high] theorem xk_110 (ρ : Operand → Value) (dst : Option Tmp) (x y : Operand) (ok : Bool) (ty : TypeId) (pos : String) (after : Array Edge) (guard : Option (Nat × Bool)) : execOp ρ { dst, op := .lookup 110 x y ok, type := ty, pos, after, guard } = (do pure (.value (← gLookup 110 (ρ x) (ρ y) ok))) := ex_lookup ..
@[go_sem ↓ high] theorem xu_110 (ρ : Operand → Value) (dst : Option Tmp) (x y z : Operand) (ty : TypeId) (pos : String) (after : Array Edge) (guard : Option (Nat × Bool)) : execOp ρ { dst, op := .mapUpdate 110 x y z, type := ty, pos, after, guard } = (do gMapUpdate 110 (ρ x) (ρ y) (ρ z); pure .skip) := ex_mapUpdate ..
@[go_sem ↓ high] theorem lk_110 (w : World) (r : Nat) (k : ByteArray) : (gLookup 110 (.map (some r)) (.string k) false).run Tryz.prog w = ofOpt ((mapAt ByteArray Int w r).map fun m => (.int .i64 ((mget m k).getD 0))) w (noLookup Tryz.prog 110 (.map (some r)) (.string k) false w) :=
  run_gLookup kl9 um110 zv110_3 w r k
@[go_sem ↓ high] theorem lo_110 (w : World) (r : Nat) (k : ByteArray) : (gLookup 110 (.map (some r)) (.string k) true).run Tryz.prog w = ofOpt ((mapAt ByteArray Int w r).map fun m => .tuple #[(.int .i64 ((mget m k).getD 0)), .bool (mget m k).isSome]) w (noLookup Tryz.prog 110 (.map (some r)) (.string k) true w) :=
  run_gLookup_ok kl9 um110 zv110_3 w r k
@[go_sem ↓ high] theorem ln_110 (w : World) (k : ByteArray) : (gLookup 110 (.map none) (.string k) false).run Tryz.prog w = .ok (.int .i64 (0 : Int)) w :=
  run_gLookup_nil kl9 um110 zv110_3 w k
@[go_sem ↓ high] theorem mu_110 (w : World) (r : Nat) (k : ByteArray) (v : Int) : (gMapUpdate 110 (.map (some r)) (.string k) (.int .i64 v)).run Tryz.prog w = okU ((mapAt ByteArray Int w r).isSome) (mput Tryz.prog 110 w r k v) (noUpdate Tryz.prog 110 (.map (some r)) (.string k) (.int .i64 v) w) :=
  run_gMapUpdate kl9 um110 w r k v
@[go_sem] theorem sz_mput_110 (w : World) (r : Nat) (k : ByteArray) (v : Int) (h : (mapAt ByteArray Int w r).isSome = true) : (mput Tryz.prog 110 w r k v).heap.size = w.heap.size := by
  obtain ⟨m, hm⟩ := Option.isSome_iff_exists.1 h; exact mput_size kl9 um110 hm k v

end Go.Proofs.YteockodnfempfaaGreatDoor
/- What the arguments of this seat read as. Conditions: those named in each theorem. -/
namespace Go.Proofs.YteockodnfempfaaGreatDoor
open Go Go.RowKit Go.Gv

theorem cz42 : Tryz.prog.cellsOf 42 = 1 := by kernel_rfl
theorem cz35 : Tryz.prog.cellsOf 35 = 35 := by kernel_rfl
theorem cz31 : Tryz.prog.cellsOf 31 = 2 := by kernel_rfl
theorem cz3 : Tryz.prog.cellsOf 3 = 1 := by kernel_rfl
def ok31 (_W : World) (x : GName) : Prop := FitI .i64 x.client ∧ FitI .i64 x.seq
theorem op31 (W : World) : Opens Tryz.prog W 31 GName (ok31 W) := fun H enc fuel cs x h => by
  obtain ⟨hl, n, hf⟩ := open_fieldT uu31 h
  rw [cz31] at hl
  obtain ⟨y0, h0⟩ := hf 0 3 0 (by rw [fl31]; rfl)
  obtain ⟨n0, e0, _, k0⟩ := DataW.trod_int uk3 h0
  rw [cz3] at e0
  have s0 : cs.drop 0 = [.int .i64 n0] ++ cs.drop 1 := by rw [← e0]; exact drop_split cs 0 1
  obtain ⟨y1, h1⟩ := hf 1 3 1 (by rw [fl31]; rfl)
  obtain ⟨n1, e1, _, k1⟩ := DataW.trod_int uk3 h1
  rw [cz3] at e1
  have s1 : cs.drop 1 = [.int .i64 n1] ++ cs.drop 2 := by rw [← e1]; exact drop_split cs 1 1
  have hz : cs.drop 2 = [] := List.drop_eq_nil_of_le (by omega)
  refine ⟨⟨n0, n1⟩, ?_, k0, k1⟩
  have hh : cs.drop 0 = [.int .i64 n0] ++ ([.int .i64 n1]) := by rw [s0, s1, hz, List.append_nil]
  exact hh
theorem cz33 : Tryz.prog.cellsOf 33 = 32 := by kernel_rfl
theorem op33 (W : World) : Opens Tryz.prog W 33 GHash (fun _ => True) := opens_hash (t8 := 5) (by kernel_rfl) (by kernel_rfl) (by kernel_rfl) (by kernel_rfl)
theorem cz26 : Tryz.prog.cellsOf 26 = 1 := by kernel_rfl
def ok35 (W : World) (x : GEntry) : Prop := ok31 W x.name ∧ True ∧ FitI .u64 x.time
theorem op35 (W : World) : Opens Tryz.prog W 35 GEntry (ok35 W) := fun H enc fuel cs x h => by
  obtain ⟨hl, n, hf⟩ := open_fieldT uu35 h
  rw [cz35] at hl
  obtain ⟨y0, h0⟩ := hf 0 31 0 (by rw [fl35]; rfl)
  obtain ⟨n0, e0, k0⟩ := op31 W H enc _ _ _ h0
  rw [cz31] at e0
  have s0 : cs.drop 0 = Enc.enc n0 ++ cs.drop 2 := by rw [← e0]; exact drop_split cs 0 2
  obtain ⟨y1, h1⟩ := hf 1 33 2 (by rw [fl35]; rfl)
  obtain ⟨n1, e1, k1⟩ := op33 W H enc _ _ _ h1
  rw [cz33] at e1
  have s1 : cs.drop 2 = Enc.enc n1 ++ cs.drop 34 := by rw [← e1]; exact drop_split cs 2 32
  obtain ⟨y2, h2⟩ := hf 2 26 34 (by rw [fl35]; rfl)
  obtain ⟨n2, e2, _, k2⟩ := DataW.trod_int uk26 h2
  rw [cz26] at e2
  have s2 : cs.drop 34 = [.int .u64 n2] ++ cs.drop 35 := by rw [← e2]; exact drop_split cs 34 1
  have hz : cs.drop 35 = [] := List.drop_eq_nil_of_le (by omega)
  refine ⟨⟨n0, n1, n2⟩, ?_, k0, k1, k2⟩
  have hh : cs.drop 0 = Enc.enc n0 ++ (Enc.enc n1 ++ ([.int .u64 n2])) := by rw [s0, s1, s2, hz, List.append_nil]
  exact hh
theorem op42 (W : World) : Opens Tryz.prog W 42 Hdr (SlOk W GEntry (ok35 W)) := opens_slice (e := 35) (by kernel_rfl) (cz35.trans rfl) (op35 W)
theorem cz133 : Tryz.prog.cellsOf 133 = 1 := by kernel_rfl
theorem op133 (W : World) : Opens Tryz.prog W 133 Hdr (SlOk W Hdr (SlOk W GEntry (ok35 W))) := opens_slice (e := 42) (by kernel_rfl) (cz42.trans rfl) (op42 W)
theorem cz134 : Tryz.prog.cellsOf 134 = 1 := by kernel_rfl
theorem op3 (W : World) : Opens Tryz.prog W 3 I64 (fun x => FitI .i64 x.v) := opens_i64 (by kernel_rfl)
theorem op134 (W : World) : Opens Tryz.prog W 134 Hdr (SlOk W I64 (fun x => FitI .i64 x.v)) := opens_slice (e := 3) (by kernel_rfl) (cz3.trans rfl) (op3 W)
theorem cz22 : Tryz.prog.cellsOf 22 = 1 := by kernel_rfl
theorem cz28 : Tryz.prog.cellsOf 28 = 4 := by kernel_rfl
theorem cz9 : Tryz.prog.cellsOf 9 = 1 := by kernel_rfl
theorem cz4 : Tryz.prog.cellsOf 4 = 1 := by kernel_rfl
def ok28 (_W : World) (x : GLaw19Act) : Prop := FitI .i64 x.client ∧ FitI .u64 x.time ∧ x.payload.size ≤ maxLen ∧ True
theorem op28 (W : World) : Opens Tryz.prog W 28 GLaw19Act (ok28 W) := fun H enc fuel cs x h => by
  obtain ⟨hl, n, hf⟩ := open_fieldT uu28 h
  rw [cz28] at hl
  obtain ⟨y0, h0⟩ := hf 0 3 0 (by rw [fl28]; rfl)
  obtain ⟨n0, e0, _, k0⟩ := DataW.trod_int uk3 h0
  rw [cz3] at e0
  have s0 : cs.drop 0 = [.int .i64 n0] ++ cs.drop 1 := by rw [← e0]; exact drop_split cs 0 1
  obtain ⟨y1, h1⟩ := hf 1 26 1 (by rw [fl28]; rfl)
  obtain ⟨n1, e1, _, k1⟩ := DataW.trod_int uk26 h1
  rw [cz26] at e1
  have s1 : cs.drop 1 = [.int .u64 n1] ++ cs.drop 2 := by rw [← e1]; exact drop_split cs 1 1
  obtain ⟨y2, h2⟩ := hf 2 9 2 (by rw [fl28]; rfl)
  obtain ⟨n2, e2, _, k2⟩ := DataW.trod_string uk9 h2
  rw [cz9] at e2
  have s2 : cs.drop 2 = [.string n2] ++ cs.drop 3 := by rw [← e2]; exact drop_split cs 2 1
  obtain ⟨y3, h3⟩ := hf 3 4 3 (by rw [fl28]; rfl)
  obtain ⟨n3, e3, _⟩ := DataW.trod_bool uk4 h3
  have k3 := trivial
  rw [cz4] at e3
  have s3 : cs.drop 3 = [.bool n3] ++ cs.drop 4 := by rw [← e3]; exact drop_split cs 3 1
  have hz : cs.drop 4 = [] := List.drop_eq_nil_of_le (by omega)
  refine ⟨⟨n0, n1, n2, n3⟩, ?_, k0, k1, k2, k3⟩
  have hh : cs.drop 0 = [.int .i64 n0] ++ ([.int .u64 n1] ++ ([.string n2] ++ ([.bool n3]))) := by rw [s0, s1, s2, s3, hz, List.append_nil]
  exact hh
theorem op22 (W : World) : Opens Tryz.prog W 22 Hdr (SlOk W GLaw19Act (ok28 W)) := opens_slice (e := 28) (by kernel_rfl) (cz28.trans rfl) (op28 W)
end Go.Proofs.YteockodnfempfaaGreatDoor
/- Facts that the frames of all laws of this seat share. Conditions: none. -/
namespace Go.Proofs.YteockodnfempfaaGreatDoor
open Go Go.RowKit Go.Gv
theorem ownK : ownKnob Tryz.prog.godebug = none := by kernel_rfl
theorem laidK : laidOutB Tryz.prog = true := by kernel_rfl
end Go.Proofs.YteockodnfempfaaGreatDoor
/- The library's functions at this program: which is which; printed by the kit's lay-plain. -/
namespace Go.Proofs.YteockodnfempfaaGreatDoor
open Go Go.Proofs
open Go.Shelf
def Tryz.split_ren : Go.Shelf.Ren := ⟨fun | 146 => 72 | 221 => 94 | 268 => 111 | 138 => 112 | 143 => 113 | 195 => 131 | 197 => 132 | 218 => 133 | 219 => 134 | 260 => 144 | 217 => 145 | 225 => 146 | 224 => 147 | 267 => 148 | 266 => 155 | 314 => 156 | n => n, fun | 9 => 9 | 31 => 48 | 3 => 3 | 4 => 4 | 0 => 0 | 105 => 184 | 21 => 21 | 5 => 5 | 46 => 147 | 119 => 201 | 139 => 204 | 138 => 203 | 146 => 205 | 51 => 164 | n => n, fun | 1 => 0 | 3 => 2 | 4 => 3 | n => n⟩
theorem Tryz.split : Go.Proofs.LaysM.n146 Tryz.prog Tryz.split_ren := {
  mixed := by kernel_rfl
  f138 := Tryz.func112.trans (congrArg some (by kernel_rfl))
  f143 := Tryz.func113.trans (congrArg some (by kernel_rfl))
  f146 := Tryz.func72.trans (congrArg some (by kernel_rfl))
  f195 := Tryz.func131.trans (congrArg some (by kernel_rfl))
  f197 := Tryz.func132.trans (congrArg some (by kernel_rfl))
  f217 := Tryz.func145.trans (congrArg some (by kernel_rfl))
  f218 := Tryz.func133.trans (congrArg some (by kernel_rfl))
  f219 := Tryz.func134.trans (congrArg some (by kernel_rfl))
  f221 := Tryz.func94.trans (congrArg some (by kernel_rfl))
  f224 := Tryz.func147.trans (congrArg some (by kernel_rfl))
  f225 := Tryz.func146.trans (congrArg some (by kernel_rfl))
  f260 := Tryz.func144.trans (congrArg some (by kernel_rfl))
  f266 := Tryz.func155.trans (congrArg some (by kernel_rfl))
  f267 := Tryz.func148.trans (congrArg some (by kernel_rfl))
  f268 := Tryz.func111.trans (congrArg some (by kernel_rfl))
  f314 := Tryz.func156.trans (congrArg some (by kernel_rfl))
  t0 := Tryz.underlying0
  a0 := Tryz.isAgg0
  z0 := Tryz.sizeOf0
  v0 := Tryz.zeroValue0
  t3 := Tryz.underlying3
  a3 := Tryz.isAgg3
  z3 := Tryz.sizeOf3
  v3 := Tryz.zeroValue3
  t4 := Tryz.underlying4
  a4 := Tryz.isAgg4
  z4 := Tryz.sizeOf4
  v4 := Tryz.zeroValue4
  t5 := Tryz.underlying5
  a5 := Tryz.isAgg5
  z5 := Tryz.sizeOf5
  v5 := Tryz.zeroValue5
  t9 := Tryz.underlying9
  a9 := Tryz.isAgg9
  z9 := Tryz.sizeOf9
  v9 := Tryz.zeroValue9
  t21 := Tryz.underlying21
  a21 := Tryz.isAgg21
  z21 := Tryz.sizeOf21
  v21 := Tryz.zeroValue21
  t31 := Tryz.underlying48
  a31 := Tryz.isAgg48
  z31 := Tryz.sizeOf48
  v31 := Tryz.zeroValue48
  t46 := Tryz.underlying147
  a46 := Tryz.isAgg147
  z46 := Tryz.sizeOf147
  v46 := Tryz.zeroValue147
  t51 := Tryz.underlying164
  a51 := Tryz.isAgg164
  z51 := Tryz.sizeOf164
  v51 := Tryz.zeroValue164
  t105 := Tryz.underlying184
  a105 := Tryz.isAgg184
  z105 := Tryz.sizeOf184
  v105 := Tryz.zeroValue184
  t119 := Tryz.underlying201
  a119 := Tryz.isAgg201
  z119 := Tryz.sizeOf201
  t138 := Tryz.underlying203
  a138 := Tryz.isAgg203
  z138 := Tryz.sizeOf203
  v138 := Tryz.zeroValue203
  t139 := Tryz.underlying204
  a139 := Tryz.isAgg204
  z139 := Tryz.sizeOf204
  v139 := Tryz.zeroValue204
  t146 := Tryz.underlying205
  a146 := Tryz.isAgg205
  z146 := Tryz.sizeOf205
  v146 := Tryz.zeroValue205
  g1 := by kernel_rfl
  g3 := by kernel_rfl
  g4 := by kernel_rfl
  i0 := by kernel_rfl
  i3 := by kernel_rfl
  i4 := by kernel_rfl
  i5 := by kernel_rfl
  i9 := by kernel_rfl
  i21 := by kernel_rfl
  i31 := by kernel_rfl
  i46 := by kernel_rfl
  i51 := by kernel_rfl
  i105 := by kernel_rfl
  i138 := by kernel_rfl
  i139 := by kernel_rfl
  i146 := by kernel_rfl
  m1 := by kernel_rfl
  s1_3 := fun w h => Go.Proofs.cell_of_shapedOpen_int (zero := #[.int .i64 0]) (t := 3) h (of_decide_eq_true (by kernel_rfl)) (by kernel_rfl) rfl (by kernel_rfl) (by kernel_rfl) Tryz.underlying3
  m3 := by kernel_rfl
  m4 := by kernel_rfl }
def Tryz.itoa_ren : Go.Shelf.Ren := ⟨fun | 171 => 73 | 243 => 95 | 246 => 114 | 283 => 135 | 284 => 136 | 285 => 137 | 286 => 138 | 129 => 108 | 317 => 149 | 318 => 150 | 319 => 151 | 320 => 152 | 337 => 157 | 338 => 158 | n => n, fun | 3 => 3 | 9 => 9 | 2 => 2 | 4 => 4 | 171 => 187 | 0 => 0 | 53 => 26 | 37 => 38 | 5 => 5 | 173 => 189 | 212 => 198 | 51 => 164 | 20 => 20 | 213 => 199 | 46 => 147 | 232 => 32 | 233 => 207 | n => n, fun | 17 => 1 | 18 => 4 | 19 => 5 | n => n⟩
theorem Tryz.itoa : Go.Proofs.LaysM.n171 Tryz.prog Tryz.itoa_ren := {
  mixed := by kernel_rfl
  f129 := Tryz.func108.trans (congrArg some (by kernel_rfl))
  f171 := Tryz.func73.trans (congrArg some (by kernel_rfl))
  f243 := Tryz.func95.trans (congrArg some (by kernel_rfl))
  f246 := Tryz.func114.trans (congrArg some (by kernel_rfl))
  f283 := Tryz.func135.trans (congrArg some (by kernel_rfl))
  f284 := Tryz.func136.trans (congrArg some (by kernel_rfl))
  f285 := Tryz.func137.trans (congrArg some (by kernel_rfl))
  f286 := Tryz.func138.trans (congrArg some (by kernel_rfl))
  f317 := Tryz.func149.trans (congrArg some (by kernel_rfl))
  f318 := Tryz.func150.trans (congrArg some (by kernel_rfl))
  f319 := Tryz.func151.trans (congrArg some (by kernel_rfl))
  f320 := Tryz.func152.trans (congrArg some (by kernel_rfl))
  f337 := Tryz.func157.trans (congrArg some (by kernel_rfl))
  f338 := Tryz.func158.trans (congrArg some (by kernel_rfl))
  t0 := Tryz.underlying0
  a0 := Tryz.isAgg0
  z0 := Tryz.sizeOf0
  v0 := Tryz.zeroValue0
  t2 := Tryz.underlying2
  a2 := Tryz.isAgg2
  z2 := Tryz.sizeOf2
  v2 := Tryz.zeroValue2
  t3 := Tryz.underlying3
  a3 := Tryz.isAgg3
  z3 := Tryz.sizeOf3
  v3 := Tryz.zeroValue3
  t4 := Tryz.underlying4
  a4 := Tryz.isAgg4
  z4 := Tryz.sizeOf4
  v4 := Tryz.zeroValue4
  t5 := Tryz.underlying5
  a5 := Tryz.isAgg5
  z5 := Tryz.sizeOf5
  v5 := Tryz.zeroValue5
  t9 := Tryz.underlying9
  a9 := Tryz.isAgg9
  z9 := Tryz.sizeOf9
  v9 := Tryz.zeroValue9
  t20 := Tryz.underlying20
  a20 := Tryz.isAgg20
  z20 := Tryz.sizeOf20
  v20 := Tryz.zeroValue20
  t37 := Tryz.underlying38
  a37 := Tryz.isAgg38
  z37 := Tryz.sizeOf38
  v37 := Tryz.zeroValue38
  t46 := Tryz.underlying147
  a46 := Tryz.isAgg147
  z46 := Tryz.sizeOf147
  v46 := Tryz.zeroValue147
  t51 := Tryz.underlying164
  a51 := Tryz.isAgg164
  z51 := Tryz.sizeOf164
  v51 := Tryz.zeroValue164
  t53 := Tryz.underlying26
  a53 := Tryz.isAgg26
  z53 := Tryz.sizeOf26
  v53 := Tryz.zeroValue26
  t171 := Tryz.underlying187
  a171 := Tryz.isAgg187
  z171 := Tryz.sizeOf187
  v171 := Tryz.zeroValue187
  t173 := Tryz.underlying189
  a173 := Tryz.isAgg189
  z173 := Tryz.sizeOf189
  v173 := Tryz.zeroValue189
  t212 := Tryz.underlying198
  a212 := Tryz.isAgg198
  z212 := Tryz.sizeOf198
  v212 := Tryz.zeroValue198
  t213 := Tryz.underlying199
  a213 := Tryz.isAgg199
  z213 := Tryz.sizeOf199
  t232 := Tryz.underlying32
  a232 := Tryz.isAgg32
  z232 := Tryz.sizeOf32
  v232 := Tryz.zeroValue32
  t233 := Tryz.underlying207
  a233 := Tryz.isAgg207
  z233 := Tryz.sizeOf207
  v233 := Tryz.zeroValue207
  g17 := by kernel_rfl
  g18 := by kernel_rfl
  g19 := by kernel_rfl
  i0 := by kernel_rfl
  i2 := by kernel_rfl
  i3 := by kernel_rfl
  i4 := by kernel_rfl
  i5 := by kernel_rfl
  i9 := by kernel_rfl
  i20 := by kernel_rfl
  i37 := by kernel_rfl
  i46 := by kernel_rfl
  i51 := by kernel_rfl
  i53 := by kernel_rfl
  i171 := by kernel_rfl
  i173 := by kernel_rfl
  i212 := by kernel_rfl
  i232 := by kernel_rfl
  i233 := by kernel_rfl
  m17 := by kernel_rfl
  m18 := by kernel_rfl
  m19 := by kernel_rfl }
end Go.Proofs.YteockodnfempfaaGreatDoor
/- A region that leaves its order of evaluation open: operations that only look may come in any order. Conditions: those named in each theorem. -/
namespace Go.Gv
open Go Go.RowKit

/-! ### A region that draws its order: operations that only look come first, in whatever order; the rest comes in one forced order.
What looks must find the same in every world of a class (the worlds 'W z'); the rest must stay in the class. -/
section
variable {P : Program} {ops : Array Oper} {md : Region.Mode} {Q : Exit → Act → World → Prop} {ι : Type} {W : ι → World}

@[go_sem] def lookUpon (P : Program) (w : World) (v : Value) : Result Next → Prop
  | .ok (.value u) w' => w' = w ∧ u = v
  | .ok .skip w' => w' = w ∧ v = undef
  | .ok (.enter f args) w' => w' = w ∧ Calls P f args w (fun e w'' => e = .returned v ∧ ∃ m, w'' = w.drewN m)
  | _ => False
@[go_sem] def _root_.Go.Oper.looks (P : Program) (o : Oper) (a : Act) (W : ι → World) (next : Act → Prop) : Prop := ∃ v, (∀ z, lookUpon P (W z) v ((execOp a.eval o).run P (W z))) ∧ next (a.put o.dst v)

def YieldsL (P : Program) (ops : Array Oper) (W : ι → World) (o : Oper) (v : Value) (a : Act) : Prop :=
  (Region.wanted o (yielded ops a.tmps) = true ∧ ∀ z, lookUpon P (W z) v ((execOp a.eval o).run P (W z))) ∨ (Region.wanted o (yielded ops a.tmps) = false ∧ v = undef)
theorem YieldsL.of_same {o : Oper} {v : Value} {a a' : Act} (hy : YieldsL P ops W o v a) (he : execOp a'.eval o = execOp a.eval o)
    (hw : Region.wanted o (yielded ops a'.tmps) = Region.wanted o (yielded ops a.tmps)) : YieldsL P ops W o v a' := by
  unfold YieldsL at *
  rw [he, hw]
  exact hy
theorem YieldsL.wpOp {i : Nat} {o : Oper} {v : Value} {a : Act} {K : Act → World → Prop} (hi : ops[i]? = some o) (hy : YieldsL P ops W o v a) (z : ι) (h : ∀ m, K (a.put o.dst v) ((W z).drewN m)) : wpOp P ops Q i K a (W z) := by
  have h0 : K (a.put o.dst v) (W z) := h 0
  unfold Go.wpOp
  simp only [hi]
  rcases hy with ⟨hw, hv⟩ | ⟨hw, rfl⟩
  · simp only [hw, if_true]
    refine .inl ?_
    have hz := hv z
    unfold Oper.wp
    generalize (execOp a.eval o).run P (W z) = r at hz
    cases r with
    | ok n w' =>
      cases n <;> simp only [lookUpon] at hz <;> simp only [Oper.upon]
      case value u => obtain ⟨rfl, rfl⟩ := hz; exact h0
      case skip => obtain ⟨rfl, rfl⟩ := hz; exact h0
      case enter f args =>
        obtain ⟨rfl, hc⟩ := hz
        refine hc.mono fun e w'' ⟨he, m, hm⟩ => ?_
        subst he; subst hm; exact h m
    | halt x w' => simp only [lookUpon] at hz
  · simp only [hw, Bool.false_eq_true, if_false]; exact h0

theorem wpOp_putL {j : Nat} {oi oj : Oper} {v : Value} {w : World} (hj : ops[j]? = some oj) (hap : oi.apart ops oj = true)
    (hsi : ∀ cs b, oi.op ≠ .select cs b) (hsj : ∀ cs b, oj.op ≠ .select cs b)
    (hQ : ∀ c a w, Q (.panic c) (a.put oi.dst v) w → Q (.panic c) a w) {K : Act → World → Prop} {a : Act}
    (hy : YieldsL P ops W oi v a) (h : wpOp P ops Q j K (a.put oi.dst v) w) :
    wpOp P ops Q j (fun a' w' => YieldsL P ops W oi v a' ∧ K (a'.put oi.dst v) w') a w := by
  obtain ⟨h1, h2, h3⟩ := Oper.apart_spec hap
  have keep : ∀ (a : Act), YieldsL P ops W oi v a → ∀ u, YieldsL P ops W oi v (a.put oj.dst u) := fun a hy u =>
    hy.of_same (execOp_put oi hsi a oj.dst u h3) (wanted_put oi a oj.dst u h3)
  have keepD : ∀ d, YieldsL P ops W oi v { a with defers := d :: a.defers } := fun d => hy.of_same rfl rfl
  unfold Go.wpOp at *
  simp only [hj] at *
  rw [wanted_put oj a oi.dst v h1] at h
  split
  · rename_i hw
    simp only [hw, if_true] at h
    rcases h with h | ⟨hasks, hlets⟩
    case inr => exact .inr ⟨by unfold Oper.asks at *; rw [execOp_put oj hsj a oi.dst v h1] at hasks; exact hasks, hlets⟩
    refine .inl ?_
    unfold Oper.wp at *
    rw [execOp_put oj hsj a oi.dst v h1] at h
    generalize (execOp a.eval oj).run P w = r at *
    cases r with
    | ok n w' =>
      cases n <;> simp only [Oper.upon] at h ⊢
      case value u => exact ⟨keep a hy u, by rw [← Act.put_comm a v u h2]; exact h⟩
      case skip => exact ⟨keep a hy _, by rw [← Act.put_comm a v undef h2]; exact h⟩
      case defer d =>
        refine ⟨keep _ (keepD d) _, ?_⟩
        rw [← Act.put_comm _ v undef h2, ← Act.put_defers]
        exact h
      case enter f args =>
        refine Calls.mono h fun e w'' he => ?_
        cases e with
        | returned u => exact ⟨keep a hy u, by rw [← Act.put_comm a v u h2]; exact he⟩
        | panicked c => exact hQ _ _ _ he
        | outgrown => exact he
      case row row args => exact Rows.mono h fun u w'' he => ⟨keep a hy u, by rw [← Act.put_comm a v u h2]; exact he⟩
    | halt x w' =>
      cases x <;> simp only [Oper.upon] at h ⊢
      case panic u => exact hQ _ _ _ h
  · rename_i hw
    simp only [hw] at h
    exact ⟨keep a hy _, by rw [← Act.put_comm a v undef h2]; exact h⟩

/-- Whatever order is picked from here on, after whatever further draws; every world on the way is of the class. -/
def wpE (P : Program) (md : Region.Mode) (ops : Array Oper) (Q : Exit → Act → World → Prop) (W : ι → World) : Nat → Array Bool → Act → World → Prop
  | 0, listed, a, w => Region.ready md ops listed = [] ∧ ∀ n, Q .normal a (w.drewN n)
  | fuel + 1, listed, a, w =>
    (Region.ready md ops listed = [] → ∀ n, Q .normal a (w.drewN n)) ∧
    ∀ i ∈ Region.ready md ops listed, ∀ n, wpOp P ops Q i (fun a' w' => (∃ z, w' = W z) ∧ wpE P md ops Q W fuel (listed.setIfInBounds i true) a' w') a (w.drewN n)
theorem wpE_drew {fuel : Nat} {listed : Array Bool} {a : Act} {w : World} (h : wpE P md ops Q W fuel listed a w) (m : Nat) : wpE P md ops Q W fuel listed a (w.drewN m) := by
  cases fuel with
  | zero => exact ⟨h.1, fun n => by rw [World.drewN_drewN]; exact h.2 _⟩
  | succ f => exact ⟨fun h0 n => by rw [World.drewN_drewN]; exact h.1 h0 _, fun i hi n => by rw [World.drewN_drewN]; exact h.2 i hi _⟩
theorem wpAny_of_E : ∀ (fuel : Nat) (listed : Array Bool) (a : Act) (w : World), wpE P md ops Q W fuel listed a w → wpAny P md ops Q fuel listed a w
  | 0, _, _, _, h => ⟨h.1, h.2 0⟩
  | fuel + 1, _, _, _, h => ⟨fun h0 => h.1 h0 0, fun i hi => wpOp_mono (fun a' w' h' => wpAny_of_E fuel _ a' w' h'.2) (h.2 i hi 0)⟩

theorem wpE_first {i : Nat} {oi : Oper} {v : Value} (hcl : ∀ z n, ∃ z', (W z).drewN n = W z') (hi : ops[i]? = some oi) (hsel : ∀ (j : Nat) (o : Oper) cs b, ops[j]? = some o → o.op ≠ .select cs b)
    (hQ : ∀ c (a a' : Act) w, a.defers = a'.defers → Q (.panic c) a w → Q (.panic c) a' w) :
    ∀ (fuel : Nat) (listed : Array Bool) (a : Act) (z : ι),
      (∀ j oj, ops[j]? = some oj → j ≠ i → listed.getD j true = false → (∀ e ∈ oj.after, Region.binds md e = true → e.on ≠ i) → oi.apart ops oj = true) →
      i ∈ Region.ready md ops listed → YieldsL P ops W oi v a →
      wpE P md ops Q W fuel (listed.setIfInBounds i true) (a.put oi.dst v) (W z) → wpE P md ops Q W (fuel + 1) listed a (W z) := by
  intro fuel
  induction fuel with
  | zero =>
    intro listed a z _ hr hy H
    refine ⟨fun h => (by rw [h] at hr; cases hr), fun j hj n => ?_⟩
    by_cases hji : j = i
    · subst hji
      obtain ⟨z1, hz1⟩ := hcl z n
      rw [hz1]
      refine hy.wpOp hi z1 fun m => ⟨hcl z1 m, ?_⟩
      rw [← hz1]; exact wpE_drew (wpE_drew H n) m
    · have := ready_mono hj hji
      rw [H.1] at this
      cases this
  | succ fuel ih =>
    intro listed a z hfree hr hy H
    refine ⟨fun h => (by rw [h] at hr; cases hr), fun j hj n => ?_⟩
    by_cases hji : j = i
    · subst hji
      obtain ⟨z1, hz1⟩ := hcl z n
      rw [hz1]
      refine hy.wpOp hi z1 fun m => ⟨hcl z1 m, ?_⟩
      rw [← hz1]; exact wpE_drew (wpE_drew H n) m
    · have h1 := H.2 j (ready_mono hj hji) n
      obtain ⟨hjun, oj, hoj, hall⟩ := mem_ready.1 hj
      have hnot : ∀ e ∈ oj.after, Region.binds md e = true → e.on ≠ i := fun e he hb heq => by
        have h1 := hall e he hb
        have h0 := (mem_ready.1 hr).1
        rw [heq] at h1
        rcases Nat.lt_or_ge i listed.size with h' | h'
        · simp [h'] at h0 h1; rw [h0] at h1; cases h1
        · simp [Array.getElem?_eq_none h'] at h1
      have h2 := wpOp_putL hoj (hfree j oj hoj hji hjun hnot) (fun cs b => hsel i oi cs b hi) (fun cs b => hsel j oj cs b hoj) (fun c a w h => hQ c _ _ w (by cases oi.dst <;> rfl) h) hy h1
      have hfree' : ∀ k ok, ops[k]? = some ok → k ≠ i → (listed.setIfInBounds j true).getD k true = false →
          (∀ e ∈ ok.after, Region.binds md e = true → e.on ≠ i) → oi.apart ops ok = true := fun k ok hk hki hun hno => by
        refine hfree k ok hk hki ?_ hno
        by_cases hjk : j = k
        · subst hjk; exact hjun
        · rw [getD_set_ne true hjk] at hun; exact hun
      refine wpOp_mono (fun a' w' h3 => ⟨h3.2.1, ?_⟩) h2
      obtain ⟨hy', ⟨z2, hz2⟩, h4⟩ := h3
      rw [hz2] at h4 ⊢
      refine ih (listed.setIfInBounds j true) a' z2 hfree' (ready_mono hr (Ne.symm hji)) hy' ?_
      rw [Array.setIfInBounds_comm _ _ hji]
      exact h4

/-- The first part, as it is walked. -/
def wpLooks (P : Program) (ops : Array Oper) (W : ι → World) (K : Act → Prop) : List Oper → Act → Prop
  | [], a => K a
  | o :: rest, a => if Region.wanted o (yielded ops a.tmps) then o.looks P a W (wpLooks P ops W K rest) else wpLooks P ops W K rest (a.put o.dst undef)
/-- The second part, as it is walked. -/
def wpRest (P : Program) (ops : Array Oper) (Q : Exit → Act → World → Prop) (W : ι → World) : List Oper → Act → World → Prop
  | [], a, w => ∀ n, Q .normal a (w.drewN n)
  | o :: rest, a, w => ∀ n, if Region.wanted o (yielded ops a.tmps) then o.wp P a (w.drewN n) (fun a' w' => (∃ z, w' = W z) ∧ wpRest P ops Q W rest a' w') Q else (∃ z, w.drewN n = W z) ∧ wpRest P ops Q W rest (a.put o.dst undef) (w.drewN n)

def seqL (md : Region.Mode) (ops : Array Oper) : List Nat → Array Bool → Bool
  | [], listed => (Region.ready md ops listed).isEmpty
  | t :: tl, listed => decide (Region.ready md ops listed = [t]) && seqL md ops tl (listed.setIfInBounds t true)
def permB (md : Region.Mode) (ops : Array Oper) (tl : List Nat) : List Nat → Array Bool → Bool
  | [], listed => seqL md ops tl listed
  | i :: hd, listed => (Region.ready md ops listed).contains i && Region.free md ops listed i && permB md ops tl hd (listed.setIfInBounds i true)

theorem wpE_of_rest : ∀ (tl : List Nat) (l : List Oper) (listed : Array Bool) (a : Act) (w : World), tl.mapM (fun i => ops[i]?) = some l → seqL md ops tl listed = true → wpRest P ops Q W l a w → wpE P md ops Q W tl.length listed a w
  | [], l, listed, a, w, hl, hB, h => by
    simp at hl; subst hl
    exact ⟨by simpa [seqL] using hB, h⟩
  | t :: tl, l, listed, a, w, hl, hB, h => by
    simp only [List.mapM_cons, Option.bind_eq_bind, Option.pure_def] at hl
    cases ht : ops[t]? with
    | none => simp [ht] at hl
    | some o =>
      cases hr : tl.mapM (fun i => ops[i]?) with
      | none => simp [ht, hr] at hl
      | some l' =>
        simp [ht, hr] at hl
        subst hl
        simp only [seqL, Bool.and_eq_true, decide_eq_true_eq] at hB
        refine ⟨fun h1 => (by rw [hB.1] at h1; cases h1), fun i hi n => ?_⟩
        rw [hB.1] at hi
        obtain rfl : i = t := by simpa using hi
        have hn := h n
        unfold Go.wpOp
        simp only [ht]
        split
        · rename_i hw
          rw [if_pos hw] at hn
          exact .inl (Oper.wp_mono (fun a' w' h' => ⟨h'.1, wpE_of_rest tl l' _ a' w' hr hB.2 h'.2⟩) hn)
        · rename_i hw
          rw [if_neg hw] at hn
          exact ⟨hn.1, wpE_of_rest tl l' _ _ _ hr hB.2 hn.2⟩
theorem wpE_of_looks (hcl : ∀ z n, ∃ z', (W z).drewN n = W z') (hs : Region.noSelect ops = true) (hQ : ∀ c (a a' : Act) w, a.defers = a'.defers → Q (.panic c) a w → Q (.panic c) a' w) (tl : List Nat) (lt : List Oper) (ht : tl.mapM (fun i => ops[i]?) = some lt) (z : ι) :
    ∀ (hd : List Nat) (lh : List Oper) (listed : Array Bool) (a : Act), hd.mapM (fun i => ops[i]?) = some lh → permB md ops tl hd listed = true →
    wpLooks P ops W (fun a' => wpRest P ops Q W lt a' (W z)) lh a → wpE P md ops Q W (hd.length + tl.length) listed a (W z)
  | [], lh, listed, a, hl, hB, h => by
    simp at hl; subst hl
    simpa using wpE_of_rest tl lt listed a _ ht hB h
  | i :: hd, lh, listed, a, hl, hB, h => by
    simp only [List.mapM_cons, Option.bind_eq_bind, Option.pure_def] at hl
    cases hi : ops[i]? with
    | none => simp [hi] at hl
    | some o =>
      cases hr : hd.mapM (fun i => ops[i]?) with
      | none => simp [hi, hr] at hl
      | some l' =>
        simp [hi, hr] at hl
        subst hl
        simp only [permB, Bool.and_eq_true] at hB
        have hrd : i ∈ Region.ready md ops listed := by simpa using hB.1.1
        rw [show (i :: hd).length + tl.length = (hd.length + tl.length) + 1 by simp; omega]
        unfold wpLooks at h
        split at h
        · rename_i hw
          obtain ⟨v, hv, hk⟩ := h
          exact wpE_first hcl hi (Region.noSelect_spec hs) hQ _ listed a z (Region.free_spec hi hB.1.2) hrd (.inl ⟨hw, hv⟩) (wpE_of_looks hcl hs hQ tl lt ht z hd l' _ _ hr hB.2 hk)
        · rename_i hw
          exact wpE_first hcl hi (Region.noSelect_spec hs) hQ _ listed a z (Region.free_spec hi hB.1.2) hrd (.inr ⟨by simpa using hw, rfl⟩) (wpE_of_looks hcl hs hQ tl lt ht z hd l' _ _ hr hB.2 h)

/-- The whole: hd, tl: the operations' numbers. -/
theorem wp_region_looks {id : Nat} {a : Act} {w : World} {l lh lt : List Oper} (hd tl : List Nat) (W : ι → World) (hcl : ∀ z n, ∃ z', (W z).drewN n = W z') (z : ι) (hz : w.drew = W z)
    (hm : P.follows .mixedOrders = true) (hh : hd.mapM (fun i => l.toArray[i]?) = some lh) (ht : tl.mapM (fun i => l.toArray[i]?) = some lt)
    (hB : (Region.noSelect l.toArray && permB .any l.toArray tl hd (Array.replicate l.toArray.size false) && (hd.length + tl.length == l.toArray.size)) = true)
    (hQ : ∀ c (a a' : Act) w, a.defers = a'.defers → Q (.panic c) a w → Q (.panic c) a' w)
    (h : wpLooks P l.toArray W (fun a' => wpRest P l.toArray Q W lt a' w.drew) lh a) : (Code.region id l.toArray true).wp P Q a w := by
  simp only [Bool.and_eq_true, beq_iff_eq] at hB
  refine wp_region_any hm ?_
  rw [hz] at h
  have H := wpE_of_looks hcl hB.1.1 hQ tl lt ht z hd lh _ a hh hB.1.2 h
  rw [hB.2, ← hz] at H
  exact wpAny_of_E _ _ _ _ H

/-- A class of worlds as a family, with its shape hidden. -/
theorem classFam (C : World → Prop) {w : World} (h : C w) : ∃ (ι : Type) (W : ι → World), Nonempty ι ∧ (∀ z, C (W z)) ∧ ∀ w', C w' → ∃ z, w' = W z :=
  ⟨{w' // C w'}, Subtype.val, ⟨⟨w, h⟩⟩, fun z => z.2, fun w' h => ⟨⟨w', h⟩, rfl⟩⟩
theorem wpLooks_nil {K : Act → Prop} {a : Act} (h : K a) : wpLooks P ops W K [] a := h
theorem wpLooks_step {K0 : Act → Prop} {a : Act} {o : Oper} {rest : List Oper}
    (h : ∀ K : Act → Prop, (∀ a, wpLooks P ops W K0 rest a → K a) → if Region.wanted o (yielded ops a.tmps) then o.looks P a W K else K (a.put o.dst undef)) : wpLooks P ops W K0 (o :: rest) a :=
  h _ (fun _ h => h)
theorem wpRest_nil {a : Act} {w : World} (h : ∀ n, Q .normal a (w.drewN n)) : wpRest P ops Q W [] a w := h
theorem wpRest_step {a : Act} {w : World} {o : Oper} {rest : List Oper} (hg : o.guard = none)
    (h : ∀ n, ∀ K : Act → World → Prop, (∀ a w, (∃ z, w = W z) → wpRest P ops Q W rest a w → K a w) → o.wp P a (w.drewN n) K Q) : wpRest P ops Q W (o :: rest) a w := fun n => by
  rw [if_pos (by simp [Region.wanted, hg])]
  exact h n _ (fun _ _ h1 h2 => ⟨h1, h2⟩)
theorem eval_drewN (w : World) (n : Nat) : (w.drewN n).heap = w.heap := rfl
theorem rest_build1 {α : Type} [Enc α] {t e : TypeId} {by8 : Nat} {a : Act} {w : World} {o : Oper} {rest : List Oper} (hg : o.guard = none) (y : Operand) (ho : o.op = .buildSlice t 1 #[(0, y)]) (E : ElemI P t e α by8) (hsmall : Enc.n α ≤ 16777216) (x : α)
    (hy : a.eval y = .agg (Enc.enc x).toArray) (hcls : ∀ n, ∃ z, (w.drewN n).alloc (.cells (Enc.enc x).toArray e) = W z)
    (h : ∀ n, wpRest P ops Q W rest (a.put o.dst (.slice (some ⟨w.heap.size, 0, none⟩) 1 1)) ((w.drewN n).alloc (.cells (Enc.enc x).toArray e))) : wpRest P ops Q W (o :: rest) a w :=
  wpRest_step hg fun n K hK => by
    have := run_buildSlice_one E hsmall x (w.drewN n)
    unfold gBuildSlice at this
    unfold Oper.wp execOp
    simp only [ho, Sem.run_bind, List.map_toArray, List.map_cons, List.map_nil, hy]
    rw [this]
    exact hK _ _ (hcls n) (h n)
theorem rest_append_S {α : Type} [Enc α] {t e : TypeId} {by8 base B : Nat} {xs ys : List α} {v : Value} {a : Act} {w : World} {o : Oper} {rest : List Oper} (hg : o.guard = none) (s x : Operand)
    (ho : o.op = .call { callee := .builtin .append, args := #[s, x], argTypes := #[t, t] }) (E : ElemI P t e α by8)
    (hs : a.eval s = v) (hown : OwnS w base e v xs) {A : Option Addr} {m c : Nat} (hx : a.eval x = .slice A m c) (hr : Sl α w B A m ys) (h63 : xs.length + m ≤ maxLen) (hbytes : (xs.length + m) * by8 ≤ 140737488355328) (hbase : base ≤ w.heap.size)
    (hcls : ∀ n w', (w.drewN n).grownBy w' v.ownBlock → ∃ z, w' = W z)
    (h : ∀ n v' w', OwnS w' base e v' (xs ++ ys) → (w.drewN n).grownBy w' v.ownBlock → (v'.ownBlock = v.ownBlock ∨ v'.ownBlock = some w.heap.size) → wpRest P ops Q W rest (a.put o.dst v') w') : wpRest P ops Q W (o :: rest) a w :=
  wpRest_step hg fun n _K hK => wp_append_S s x t ho E hs (hown.drewN n) hx (hr.drewN_ n) h63 hbytes hbase fun v' w' h2 h3 h4 => hK _ _ (hcls n w' h3) (h n v' w' h2 h3 h4)
theorem rest_assign {a : Act} {w : World} {o : Oper} {rest : List Oper} (hg : o.guard = none) (x : Operand) (ho : o.op = .assign x) (hcls : ∀ n, ∃ z, w.drewN n = W z)
    (h : ∀ n, wpRest P ops Q W rest (a.put o.dst (a.eval x)) (w.drewN n)) : wpRest P ops Q W (o :: rest) a w :=
  wpRest_step hg fun n K hK => by
    unfold Oper.wp execOp
    simp only [ho, Sem.run_pure]
    exact hK _ _ (hcls n) (h n)
theorem rest_value {a : Act} {w : World} {o : Oper} {rest : List Oper} (hg : o.guard = none) (v : Value) (w1 : Nat → World) (hr : ∀ n, (execOp a.eval o).run P (w.drewN n) = .ok (.value v) (w1 n)) (hcls : ∀ n, ∃ z, w1 n = W z)
    (h : ∀ n, wpRest P ops Q W rest (a.put o.dst v) (w1 n)) : wpRest P ops Q W (o :: rest) a w :=
  wpRest_step hg fun n K hK => by
    unfold Oper.wp
    rw [hr n]
    exact hK _ _ (hcls n) (h n)
theorem rest_skip {a : Act} {w : World} {o : Oper} {rest : List Oper} (hg : o.guard = none) (w1 : Nat → World) (hr : ∀ n, (execOp a.eval o).run P (w.drewN n) = .ok .skip (w1 n)) (hcls : ∀ n, ∃ z, w1 n = W z)
    (h : ∀ n, wpRest P ops Q W rest (a.put o.dst undef) (w1 n)) : wpRest P ops Q W (o :: rest) a w :=
  wpRest_step hg fun n K hK => by
    unfold Oper.wp
    rw [hr n]
    exact hK _ _ (hcls n) (h n)
theorem rest_call {a : Act} {w : World} {o : Oper} {rest : List Oper} (hg : o.guard = none) (f : FuncId) (args : Array Value) (R : Value → World → Prop) (hr : ∀ n, (execOp a.eval o).run P (w.drewN n) = .ok (.enter f args) (w.drewN n)) (hc : ∀ n, Calls P f args (w.drewN n) fun e w' => ∃ v, e = .returned v ∧ R v w') (hcls : ∀ v w', R v w' → ∃ z, w' = W z)
    (h : ∀ v w', R v w' → wpRest P ops Q W rest (a.put o.dst v) w') : wpRest P ops Q W (o :: rest) a w :=
  wpRest_step hg fun n K hK => by
    unfold Oper.wp
    rw [hr n]
    refine (hc n).mono fun e w' ⟨v, he, hR⟩ => ?_
    subst he
    exact hK _ _ (hcls v w' hR) (h v w' hR)
theorem putCells_drewN (w : World) (a : Addr) (cs : List Value) (n : Nat) : World.putCells (w.drewN n) a cs = (World.putCells w a cs).drewN n := by
  unfold World.putCells
  have : ∀ (cs : List Value) (i : Nat) (w : World), World.putFrom (w.drewN n) a i cs = (World.putFrom w a i cs).drewN n := by
    intro cs
    induction cs with
    | nil => intro i w; rfl
    | cons v vs ih => intro i w; exact ih _ (w.setCell (a.add i) v)
  exact this cs 0 w
/-- A new variable of a struct's type, and the value stored into it. -/
theorem rest_new {α : Type} [Enc α] {t : TypeId} {a : Act} {w : World} {o1 o2 : Oper} {rest : List Oper} (hg1 : o1.guard = none) (hg2 : o2.guard = none) (x y : Operand) (ho1 : o1.op = .alloc t) (ho2 : o2.op = .store t x y) (z u : α)
    (hal : ∀ w, (gAlloc t).run P w = .ok (.pointer (some ⟨w.heap.size, 0, none⟩)) (w.alloc (.cells (Enc.enc z).toArray t))) (ha : sizeT P t = Enc.n α)
    (hx : (a.put o1.dst (.pointer (some ⟨w.heap.size, 0, none⟩))).eval x = .pointer (some ⟨w.heap.size, 0, none⟩)) (hy : (a.put o1.dst (.pointer (some ⟨w.heap.size, 0, none⟩))).eval y = .agg (Enc.enc u).toArray)
    (hcls : ∀ n m (v : α), ∃ zz, ((w.drewN n).alloc (.cells (Enc.enc v).toArray t)).drewN m = W zz)
    (h : ∀ n m, wpRest P ops Q W rest ((a.put o1.dst (.pointer (some ⟨w.heap.size, 0, none⟩))).put o2.dst undef) (((w.drewN n).alloc (.cells (Enc.enc u).toArray t)).drewN m)) : wpRest P ops Q W (o1 :: o2 :: rest) a w := by
  refine rest_value hg1 (.pointer (some ⟨w.heap.size, 0, none⟩)) (fun n => (w.drewN n).alloc (.cells (Enc.enc z).toArray t)) (fun n => ?_) (fun n => hcls n 0 z) fun n => ?_
  · have := hal (w.drewN n)
    unfold gAlloc at this
    unfold execOp
    simp only [ho1, Sem.run_bind]
    rw [this]; rfl
  · refine rest_skip hg2 (fun m => ((w.drewN n).alloc (.cells (Enc.enc u).toArray t)).drewN m) (fun m => ?_) (fun m => hcls n m u) fun m => h n m
    have hst := run_gStore (P := P) (t := t) (w := ((w.drewN n).alloc (.cells (Enc.enc z).toArray t)).drewN m) (a := ⟨w.heap.size, 0, none⟩) ha u (by
      rw [get?_drewN]
      have := get?_new (w := w.drewN n) t z
      exact Option.isSome_iff_exists.2 ⟨z, this⟩) (by rw [blkFree_drewN]; exact blkFree_new _ _ rfl)
    rw [putCells_drewN, show World.putCells ((w.drewN n).alloc (.cells (Enc.enc z).toArray t)) ⟨w.heap.size, 0, none⟩ (Enc.enc u) = (w.drewN n).alloc (.cells (Enc.enc u).toArray t) from putCells_top (w := w.drewN n) u z rfl] at hst
    unfold gStore at hst
    unfold execOp
    simp only [ho2, Sem.run_bind, hx, hy]
    rw [hst]; rfl
end
end Go.Gv
/- Regions that leave their order open, phase by phase; facts carried from world to world. Conditions: those named in each theorem. -/
namespace Go.Gv
open Go Go.RowKit

section
variable {P : Program} {ops : Array Oper} {md : Region.Mode} {Q : Exit → Act → World → Prop} {ι ι' : Type} {W : ι → World} {W' : ι' → World}

/-- A narrower class of worlds serves too. -/
theorem wpE_sub (hs : ∀ z', ∃ z, W' z' = W z) : ∀ (fuel : Nat) (listed : Array Bool) (a : Act) (w : World), wpE P md ops Q W' fuel listed a w → wpE P md ops Q W fuel listed a w
  | 0, _, _, _, h => h
  | fuel + 1, _, _, _, h => ⟨h.1, fun i hi n => wpOp_mono (fun a' w' h' => ⟨by
      obtain ⟨⟨z', e⟩, _⟩ := h'
      obtain ⟨z, e'⟩ := hs z'
      exact ⟨z, e.trans e'⟩, wpE_sub hs fuel _ a' w' h'.2⟩) (h.2 i hi n)⟩
def setAll (listed : Array Bool) : List Nat → Array Bool
  | [] => listed
  | i :: hd => setAll (listed.setIfInBounds i true) hd
def permH (md : Region.Mode) (ops : Array Oper) : List Nat → Array Bool → Bool
  | [], _ => true
  | i :: hd, listed => (Region.ready md ops listed).contains i && Region.free md ops listed i && permH md ops hd (listed.setIfInBounds i true)

/-- What looks comes first. -/
theorem wpE_looks (hcl : ∀ z n, ∃ z', (W z).drewN n = W z') (hs : Region.noSelect ops = true) (hQ : ∀ c (a a' : Act) w, a.defers = a'.defers → Q (.panic c) a w → Q (.panic c) a' w) (fuel : Nat) (z : ι) :
    ∀ (hd : List Nat) (lh : List Oper) (listed : Array Bool) (a : Act), hd.mapM (fun i => ops[i]?) = some lh → permH md ops hd listed = true →
    wpLooks P ops W (fun a' => wpE P md ops Q W fuel (setAll listed hd) a' (W z)) lh a → wpE P md ops Q W (hd.length + fuel) listed a (W z)
  | [], lh, listed, a, hl, _, h => by
    simp at hl; subst hl
    have e : ([] : List Nat).length + fuel = fuel := by simp
    rw [e]; exact h
  | i :: hd, lh, listed, a, hl, hB, h => by
    simp only [List.mapM_cons, Option.bind_eq_bind, Option.pure_def] at hl
    cases hi : ops[i]? with
    | none => simp [hi] at hl
    | some o =>
      cases hr : hd.mapM (fun i => ops[i]?) with
      | none => simp [hi, hr] at hl
      | some l' =>
        simp [hi, hr] at hl
        subst hl
        simp only [permH, Bool.and_eq_true] at hB
        have hrd : i ∈ Region.ready md ops listed := by simpa using hB.1.1
        rw [show (i :: hd).length + fuel = (hd.length + fuel) + 1 by simp; omega]
        unfold wpLooks at h
        split at h
        · rename_i hw
          obtain ⟨v, hv, hk⟩ := h
          exact wpE_first hcl hi (Region.noSelect_spec hs) hQ _ listed a z (Region.free_spec hi hB.1.2) hrd (.inl ⟨hw, hv⟩) (wpE_looks hcl hs hQ fuel z hd l' _ _ hr hB.2 hk)
        · rename_i hw
          exact wpE_first hcl hi (Region.noSelect_spec hs) hQ _ listed a z (Region.free_spec hi hB.1.2) hrd (.inr ⟨by simpa using hw, rfl⟩) (wpE_looks hcl hs hQ fuel z hd l' _ _ hr hB.2 h)

theorem wpE_looks' {n : Nat} {lh : List Oper} {listed : Array Bool} {a : Act} (fuel : Nat) (hd : List Nat) (hn : n = hd.length + fuel) (hcl : ∀ z n, ∃ z', (W z).drewN n = W z') (hs : Region.noSelect ops = true) (hQ : ∀ c (a a' : Act) w, a.defers = a'.defers → Q (.panic c) a w → Q (.panic c) a' w) (z : ι)
    (hl : hd.mapM (fun i => ops[i]?) = some lh) (hB : permH md ops hd listed = true) (h : wpLooks P ops W (fun a' => wpE P md ops Q W fuel (setAll listed hd) a' (W z)) lh a) : wpE P md ops Q W n listed a (W z) := by
  subst hn; exact wpE_looks hcl hs hQ fuel z hd lh listed a hl hB h

/-- One operation alone is ready. -/
theorem wpE_force {fuel : Nat} {listed : Array Bool} {a : Act} {w : World} (t : Nat) (o : Oper) (ho : ops[t]? = some o) (hr : (Region.ready md ops listed == [t]) = true) (hg : o.guard = none)
    (h : ∀ n, ∀ K : Act → World → Prop, (∀ a' w', (∃ z, w' = W z) → wpE P md ops Q W fuel (listed.setIfInBounds t true) a' w' → K a' w') → o.wp P a (w.drewN n) K Q) : wpE P md ops Q W (fuel + 1) listed a w := by
  have hr' : Region.ready md ops listed = [t] := by simpa using hr
  refine ⟨fun h0 => (by rw [hr'] at h0; cases h0), fun i hi n => ?_⟩
  rw [hr'] at hi
  obtain rfl : i = t := by simpa using hi
  unfold Go.wpOp
  simp only [ho]
  rw [if_pos (by simp [Region.wanted, hg])]
  exact .inl (h n _ fun a' w' h1 h2 => ⟨h1, h2⟩)
theorem wpE_end {listed : Array Bool} {a : Act} {w : World} (hr : (Region.ready md ops listed).isEmpty = true) (h : ∀ n, Q .normal a (w.drewN n)) : ∀ fuel, wpE P md ops Q W fuel listed a w
  | 0 => ⟨by simpa using hr, h⟩
  | _ + 1 => ⟨fun _ => h, fun i hi => by
      have : Region.ready md ops listed = [] := by simpa using hr
      rw [this] at hi; cases hi⟩

/-- A region's start: the class is all worlds above block B as they are in w0. -/
theorem wp_region_E {id : Nat} {a : Act} {w : World} {l : List Oper} (C : World → Prop) (hC : C w.drew) (hm : P.follows .mixedOrders = true)
    (h : ∀ (ι : Type) (W : ι → World) (z0 : ι), w.drew = W z0 → Hid (∀ z, C (W z)) → Hid (∀ w', C w' → ∃ z, w' = W z) → wpE P .any l.toArray Q W l.toArray.size (Array.replicate l.toArray.size false) a (W z0)) : (Code.region id l.toArray true).wp P Q a w := by
  obtain ⟨ι, W, _, hW, hWs⟩ := classFam C hC
  obtain ⟨z0, hz⟩ := hWs _ hC
  have := h ι W z0 hz (Lib.hid hW) (Lib.hid hWs)
  rw [← hz] at this
  exact wp_region_any hm (wpAny_of_E _ _ _ _ this)
/-- The class narrowed in the midst of a region. -/
theorem wpE_class {fuel : Nat} {listed : Array Bool} {a : Act} {w : World} (C : World → Prop) (hC : C w) (hs : ∀ w', C w' → ∃ z, w' = W z)
    (h : ∀ (ι : Type) (W' : ι → World) (z0 : ι), w = W' z0 → Hid (∀ z, C (W' z)) → Hid (∀ w', C w' → ∃ z, w' = W' z) → wpE P md ops Q W' fuel listed a (W' z0)) : wpE P md ops Q W fuel listed a w := by
  obtain ⟨ι, W', _, hW, hWs⟩ := classFam C hC
  obtain ⟨z0, hz⟩ := hWs _ hC
  have := h ι W' z0 hz (Lib.hid hW) (Lib.hid hWs)
  rw [← hz] at this
  refine wpE_sub (fun z' => ?_) _ _ _ _ this
  obtain ⟨z, e⟩ := hs _ (hW z')
  exact ⟨z, e⟩

/-! Forced operations of the common kinds. -/
section
variable {fuel : Nat} {listed : Array Bool} {a : Act} {w : World} (t : Nat) (o : Oper) (ho : ops[t]? = some o) (hr : (Region.ready md ops listed == [t]) = true) (hg : o.guard = none)
include ho hr hg
theorem wpE_value (v : Value) (w1 : Nat → World) (hx : ∀ n, (execOp a.eval o).run P (w.drewN n) = .ok (.value v) (w1 n)) (hcls : ∀ n, ∃ z, w1 n = W z)
    (h : ∀ n, wpE P md ops Q W fuel (listed.setIfInBounds t true) (a.put o.dst v) (w1 n)) : wpE P md ops Q W (fuel + 1) listed a w :=
  wpE_force t o ho hr hg fun n K hK => by
    unfold Oper.wp
    rw [hx n]
    exact hK _ _ (hcls n) (h n)
theorem wpE_skip (w1 : Nat → World) (hx : ∀ n, (execOp a.eval o).run P (w.drewN n) = .ok .skip (w1 n)) (hcls : ∀ n, ∃ z, w1 n = W z)
    (h : ∀ n, wpE P md ops Q W fuel (listed.setIfInBounds t true) (a.put o.dst undef) (w1 n)) : wpE P md ops Q W (fuel + 1) listed a w :=
  wpE_force t o ho hr hg fun n K hK => by
    unfold Oper.wp
    rw [hx n]
    exact hK _ _ (hcls n) (h n)
theorem wpE_call (f : FuncId) (args : Array Value) (R : Value → World → Prop) (hx : ∀ n, (execOp a.eval o).run P (w.drewN n) = .ok (.enter f args) (w.drewN n)) (hc : ∀ n, Calls P f args (w.drewN n) fun e w' => ∃ v, e = .returned v ∧ R v w') (hcls : ∀ v w', R v w' → ∃ z, w' = W z)
    (h : ∀ v w', R v w' → wpE P md ops Q W fuel (listed.setIfInBounds t true) (a.put o.dst v) w') : wpE P md ops Q W (fuel + 1) listed a w :=
  wpE_force t o ho hr hg fun n K hK => by
    unfold Oper.wp
    rw [hx n]
    refine (hc n).mono fun e w' ⟨v, he, hR⟩ => ?_
    subst he
    exact hK _ _ (hcls v w' hR) (h v w' hR)
theorem wpE_assign (x : Operand) (hop : o.op = .assign x) (hcls : ∀ n, ∃ z, w.drewN n = W z)
    (h : ∀ n, wpE P md ops Q W fuel (listed.setIfInBounds t true) (a.put o.dst (a.eval x)) (w.drewN n)) : wpE P md ops Q W (fuel + 1) listed a w :=
  wpE_value t o ho hr hg (a.eval x) (fun n => w.drewN n) (fun n => by unfold execOp; simp only [hop, Sem.run_pure]) hcls h
theorem wpE_build1 {α : Type} [Enc α] {ts e : TypeId} {by8 : Nat} (y : Operand) (hop : o.op = .buildSlice ts 1 #[(0, y)]) (E : ElemI P ts e α by8) (hsmall : Enc.n α ≤ 16777216) (x : α)
    (hy : a.eval y = .agg (Enc.enc x).toArray) (hcls : ∀ n, ∃ z, (w.drewN n).alloc (.cells (Enc.enc x).toArray e) = W z)
    (h : ∀ n, wpE P md ops Q W fuel (listed.setIfInBounds t true) (a.put o.dst (.slice (some ⟨w.heap.size, 0, none⟩) 1 1)) ((w.drewN n).alloc (.cells (Enc.enc x).toArray e))) : wpE P md ops Q W (fuel + 1) listed a w :=
  wpE_value t o ho hr hg _ (fun n => (w.drewN n).alloc (.cells (Enc.enc x).toArray e)) (fun n => by
    have := run_buildSlice_one E hsmall x (w.drewN n)
    unfold gBuildSlice at this
    unfold execOp
    simp only [hop, Sem.run_bind, List.map_toArray, List.map_cons, List.map_nil, hy]
    rw [this]; rfl) hcls h
theorem wpE_append {α : Type} [Enc α] {ts e : TypeId} {by8 base B : Nat} {xs ys : List α} {v : Value} (s x : Operand)
    (hop : o.op = .call { callee := .builtin .append, args := #[s, x], argTypes := #[ts, ts] }) (E : ElemI P ts e α by8)
    (hs : a.eval s = v) (hown : OwnS w base e v xs) {A : Option Addr} {m c : Nat} (hx : a.eval x = .slice A m c) (hsl : Sl α w B A m ys) (h63 : xs.length + m ≤ maxLen) (hbytes : (xs.length + m) * by8 ≤ 140737488355328) (hbase : base ≤ w.heap.size)
    (hcls : ∀ n w', (w.drewN n).grownBy w' v.ownBlock → ∃ z, w' = W z)
    (h : ∀ n v' w', OwnS w' base e v' (xs ++ ys) → (w.drewN n).grownBy w' v.ownBlock → (v'.ownBlock = v.ownBlock ∨ v'.ownBlock = some w.heap.size) → wpE P md ops Q W fuel (listed.setIfInBounds t true) (a.put o.dst v') w') : wpE P md ops Q W (fuel + 1) listed a w :=
  wpE_force t o ho hr hg fun n _K hK => wp_append_S s x ts hop E hs (hown.drewN n) hx (hsl.drewN_ n) h63 hbytes hbase fun v' w' h2 h3 h4 => hK _ _ (hcls n w' h3) (h n v' w' h2 h3 h4)
end
end

/-! ### Facts carried from one world to the next -/
/-- All that there was in w0 is there in w. -/
def Bel (w0 w : World) : Prop := Below w0.heap.size w0 w
theorem Bel.refl (w : World) : Bel w w := Below.refl _ _
theorem Bel.step {w0 w w' : World} (h : Bel w0 w) (hb : Below w.heap.size w w') : Bel w0 w' := Below.trans h (hb.mono h.size)
theorem Bel.trans {w0 w w' : World} (h : Bel w0 w) (hb : Bel w w') : Bel w0 w' := h.step hb
theorem Bel.alloc {w0 w : World} (h : Bel w0 w) (o : Obj) : Bel w0 (w.alloc o) := Below.alloc h h.size o
theorem Bel.drew {w0 w : World} (h : Bel w0 w) : Bel w0 w.drew := Below.drew h
theorem Bel.drewN {w0 w : World} (h : Bel w0 w) (n : Nat) : Bel w0 (w.drewN n) := bdN h n
theorem Bel.size {w0 w : World} (h : Bel w0 w) : w0.heap.size ≤ w.heap.size := Below.size h
theorem Bel.grown {w0 w w' : World} {row : Option Nat} (h : Bel w0 w) (hg : w.grownBy w' row) (hr : ∀ k, row = some k → w0.heap.size ≤ k) : Bel w0 w' := Below.grown h hg h.size hr
theorem Bel.setCell {w0 w : World} (h : Bel w0 w) {p : Addr} (hp : w0.heap.size ≤ p.block) (u : Value) : Bel w0 (w.setCell p u) := Below.setCell h hp u
theorem Bel.appS {α : Type} [Enc α] {w0 w w' : World} {base : Nat} {e : TypeId} {v : Value} {xs : List α} (h : Bel w0 w) (hg : w.grownBy w' v.ownBlock) (hown : OwnS w base e v xs) (hb : w0.heap.size ≤ base) : Bel w0 w' :=
  Gv.Below.appS h hg hown hb h.size
theorem Sl.stepB {α : Type} [Enc α] {w w' : World} {A : Option Addr} {n : Nat} {xs : List α} (h : Sl α w w.heap.size A n xs) (hb : Bel w w') : Sl α w' w'.heap.size A n xs := (h.below hb).more hb.size
theorem OwnS.step {α : Type} [Enc α] {w w' : World} {base : Nat} {e : TypeId} {v : Value} {xs : List α} (h : OwnS w base e v xs) (hb : Below w.heap.size w w') : OwnS w' base e v xs := h.below hb (Nat.le_refl _)
end Go.Gv
/- Regions that leave their order open, phase by phase, beside calls that make memory. Conditions: those named in each theorem. -/
namespace Go.Gv
open Go Go.RowKit

/-! G w w': what may come between two operations of the region (draws, new blocks ..). An operation named in T may do more; it waits for all that looks. -/
section
variable {P : Program} {ops : Array Oper} {md : Region.Mode} {Q : Exit → Act → World → Prop} {G : World → World → Prop} {T : List Nat}

@[go_sem] def lookUponG (P : Program) (G : World → World → Prop) (w : World) (v : Value) : Result Next → Prop
  | .ok (.value u) w' => w' = w ∧ u = v
  | .ok .skip w' => w' = w ∧ v = undef
  | .ok (.enter f args) w' => w' = w ∧ Calls P f args w (fun e w'' => e = .returned v ∧ G w w'')
  | _ => False
@[go_sem] def _root_.Go.Oper.looksG {ι : Type} (P : Program) (G : World → World → Prop) (o : Oper) (a : Act) (W : ι → World) (next : Act → Prop) : Prop := ∃ v, (∀ z, lookUponG P G (W z) v ((execOp a.eval o).run P (W z))) ∧ next (a.put o.dst v)

def YieldsG (P : Program) (ops : Array Oper) (G : World → World → Prop) (w : World) (o : Oper) (v : Value) (a : Act) : Prop :=
  (Region.wanted o (yielded ops a.tmps) = true ∧ ∀ w', G w w' → lookUponG P G w' v ((execOp a.eval o).run P w')) ∨ (Region.wanted o (yielded ops a.tmps) = false ∧ v = undef)
theorem YieldsG.of_same {w : World} {o : Oper} {v : Value} {a a' : Act} (hy : YieldsG P ops G w o v a) (he : execOp a'.eval o = execOp a.eval o)
    (hw : Region.wanted o (yielded ops a'.tmps) = Region.wanted o (yielded ops a.tmps)) : YieldsG P ops G w o v a' := by
  unfold YieldsG at *
  rw [he, hw]
  exact hy
theorem YieldsG.ext (ht : ∀ a b c, G a b → G b c → G a c) {w w1 : World} {o : Oper} {v : Value} {a : Act} (hy : YieldsG P ops G w o v a) (h : G w w1) : YieldsG P ops G w1 o v a := by
  rcases hy with ⟨h1, h2⟩ | h
  · exact .inl ⟨h1, fun w' hw' => h2 w' (ht _ _ _ h hw')⟩
  · exact .inr h
theorem YieldsG.wpOp (hrf : ∀ a, G a a) {i : Nat} {o : Oper} {v : Value} {a : Act} {w w' : World} {K : Act → World → Prop} (hi : ops[i]? = some o) (hy : YieldsG P ops G w o v a) (hw' : G w w') (h : ∀ w'', G w' w'' → K (a.put o.dst v) w'') : wpOp P ops Q i K a w' := by
  unfold Go.wpOp
  simp only [hi]
  rcases hy with ⟨hw, hv⟩ | ⟨hw, rfl⟩
  · simp only [hw, if_true]
    refine .inl ?_
    have hz := hv w' hw'
    unfold Oper.wp
    generalize (execOp a.eval o).run P w' = r at hz
    cases r with
    | ok n w1 =>
      cases n <;> simp only [lookUponG] at hz <;> simp only [Oper.upon]
      case value u => obtain ⟨rfl, rfl⟩ := hz; exact h _ (hrf _)
      case skip => obtain ⟨rfl, rfl⟩ := hz; exact h _ (hrf _)
      case enter f args =>
        obtain ⟨rfl, hc⟩ := hz
        refine hc.mono fun e w'' ⟨he, hm⟩ => ?_
        subst he; exact h _ hm
    | halt x w1 => simp only [lookUponG] at hz
  · simp only [hw, Bool.false_eq_true, if_false]; exact h _ (hrf _)
theorem wpOp_putG {j : Nat} {oi oj : Oper} {v : Value} {w w0 : World} (hj : ops[j]? = some oj) (hap : oi.apart ops oj = true)
    (hsi : ∀ cs b, oi.op ≠ .select cs b) (hsj : ∀ cs b, oj.op ≠ .select cs b)
    (hQ : ∀ c a w, Q (.panic c) (a.put oi.dst v) w → Q (.panic c) a w) {K : Act → World → Prop} {a : Act}
    (hy : YieldsG P ops G w0 oi v a) (h : wpOp P ops Q j K (a.put oi.dst v) w) :
    wpOp P ops Q j (fun a' w' => YieldsG P ops G w0 oi v a' ∧ K (a'.put oi.dst v) w') a w := by
  obtain ⟨h1, h2, h3⟩ := Oper.apart_spec hap
  have keep : ∀ (a : Act), YieldsG P ops G w0 oi v a → ∀ u, YieldsG P ops G w0 oi v (a.put oj.dst u) := fun a hy u =>
    hy.of_same (execOp_put oi hsi a oj.dst u h3) (wanted_put oi a oj.dst u h3)
  have keepD : ∀ d, YieldsG P ops G w0 oi v { a with defers := d :: a.defers } := fun d => hy.of_same rfl rfl
  unfold Go.wpOp at *
  simp only [hj] at *
  rw [wanted_put oj a oi.dst v h1] at h
  split
  · rename_i hw
    simp only [hw, if_true] at h
    rcases h with h | ⟨hasks, hlets⟩
    case inr => exact .inr ⟨by unfold Oper.asks at *; rw [execOp_put oj hsj a oi.dst v h1] at hasks; exact hasks, hlets⟩
    refine .inl ?_
    unfold Oper.wp at *
    rw [execOp_put oj hsj a oi.dst v h1] at h
    generalize (execOp a.eval oj).run P w = r at *
    cases r with
    | ok n w' =>
      cases n <;> simp only [Oper.upon] at h ⊢
      case value u => exact ⟨keep a hy u, by rw [← Act.put_comm a v u h2]; exact h⟩
      case skip => exact ⟨keep a hy _, by rw [← Act.put_comm a v undef h2]; exact h⟩
      case defer d =>
        refine ⟨keep _ (keepD d) _, ?_⟩
        rw [← Act.put_comm _ v undef h2, ← Act.put_defers]
        exact h
      case enter f args =>
        refine Calls.mono h fun e w'' he => ?_
        cases e with
        | returned u => exact ⟨keep a hy u, by rw [← Act.put_comm a v u h2]; exact he⟩
        | panicked c => exact hQ _ _ _ he
        | outgrown => exact he
      case row row args => exact Rows.mono h fun u w'' he => ⟨keep a hy u, by rw [← Act.put_comm a v u h2]; exact he⟩
    | halt x w' =>
      cases x <;> simp only [Oper.upon] at h ⊢
      case panic u => exact hQ _ _ _ h
  · rename_i hw
    simp only [hw] at h
    exact ⟨keep a hy _, by rw [← Act.put_comm a v undef h2]; exact h⟩

/-- Whatever order is picked from here on. -/
def wpG (P : Program) (md : Region.Mode) (ops : Array Oper) (Q : Exit → Act → World → Prop) (G : World → World → Prop) (T : List Nat) : Nat → Array Bool → Act → World → Prop
  | 0, listed, a, w => Region.ready md ops listed = [] ∧ ∀ w', G w w' → Q .normal a w'
  | fuel + 1, listed, a, w =>
    (Region.ready md ops listed = [] → ∀ w', G w w' → Q .normal a w') ∧
    ∀ i ∈ Region.ready md ops listed, ∀ w', G w w' → wpOp P ops Q i (fun a' w'' => (i ∉ T → G w' w'') ∧ wpG P md ops Q G T fuel (listed.setIfInBounds i true) a' w'') a w'
theorem wpG_ext (ht : ∀ a b c, G a b → G b c → G a c) {fuel : Nat} {listed : Array Bool} {a : Act} {w w1 : World} (h : wpG P md ops Q G T fuel listed a w) (h1 : G w w1) : wpG P md ops Q G T fuel listed a w1 := by
  cases fuel with
  | zero => exact ⟨h.1, fun w' hw' => h.2 _ (ht _ _ _ h1 hw')⟩
  | succ f => exact ⟨fun h0 w' hw' => h.1 h0 _ (ht _ _ _ h1 hw'), fun i hi w' hw' => h.2 i hi _ (ht _ _ _ h1 hw')⟩
theorem wpAny_of_G (hrf : ∀ a, G a a) : ∀ (fuel : Nat) (listed : Array Bool) (a : Act) (w : World), wpG P md ops Q G T fuel listed a w → wpAny P md ops Q fuel listed a w
  | 0, _, _, _, h => ⟨h.1, h.2 _ (hrf _)⟩
  | fuel + 1, _, _, _, h => ⟨fun h0 => h.1 h0 _ (hrf _), fun i hi => wpOp_mono (fun a' w' h' => wpAny_of_G hrf fuel _ a' w' h'.2) (h.2 i hi _ (hrf _))⟩

/-- What an operation waits for, through others. -/
def waitsFor (md : Region.Mode) (ops : Array Oper) : Nat → Nat → List Nat
  | 0, _ => []
  | n + 1, t => match ops[t]? with
    | none => []
    | some o => (o.after.toList.filter fun e => Region.binds md e).flatMap fun e => e.on :: waitsFor md ops n e.on
def downC (md : Region.Mode) (ops : Array Oper) (listed : Array Bool) : Prop := ∀ j oj, ops[j]? = some oj → listed.getD j false = true → ∀ e ∈ oj.after, Region.binds md e = true → listed.getD e.on false = true
theorem downC_waits {listed : Array Bool} (hd : downC md ops listed) : ∀ (n t : Nat), listed.getD t false = true → ∀ i ∈ waitsFor md ops n t, listed.getD i false = true
  | 0, _, _, i, hi => by simp [waitsFor] at hi
  | n + 1, t, ht, i, hi => by
    unfold waitsFor at hi
    split at hi
    · simp at hi
    · rename_i o ho
      rw [List.mem_flatMap] at hi
      obtain ⟨e, he, hi⟩ := hi
      rw [List.mem_filter] at he
      have h1 := hd t o ho ht e (by simpa using he.1) he.2
      simp only [List.mem_cons] at hi
      rcases hi with rfl | hi
      · exact h1
      · exact downC_waits hd n e.on h1 i hi
theorem ready_waits {listed : Array Bool} (hd : downC md ops listed) {t n : Nat} (hr : t ∈ Region.ready md ops listed) {i : Nat} (hi : i ∈ waitsFor md ops n t) : listed.getD i false = true := by
  obtain ⟨_, o, ho, hall⟩ := mem_ready.1 hr
  cases n with
  | zero => simp [waitsFor] at hi
  | succ n =>
    unfold waitsFor at hi
    rw [ho] at hi
    simp only at hi
    rw [List.mem_flatMap] at hi
    obtain ⟨e, he, hi⟩ := hi
    rw [List.mem_filter] at he
    have h1 := hall e (by simpa using he.1) he.2
    simp only [List.mem_cons] at hi
    rcases hi with rfl | hi
    · exact h1
    · exact downC_waits hd n e.on h1 i hi
theorem downC_set {listed : Array Bool} (hd : downC md ops listed) {i : Nat} (hr : i ∈ Region.ready md ops listed) : downC md ops (listed.setIfInBounds i true) := by
  intro j oj hj hl e he hb
  obtain ⟨_, o, ho, hall⟩ := mem_ready.1 hr
  by_cases hij : i = j
  · subst hij
    rw [ho] at hj; injection hj with hj; subst hj
    exact getD_set_true (hall e he hb)
  · rw [getD_set_ne false hij] at hl
    exact getD_set_true (hd j oj hj hl e he hb)

theorem wpG_first {i : Nat} {oi : Oper} {v : Value} (hrf : ∀ a, G a a) (ht : ∀ a b c, G a b → G b c → G a c) (hi : ops[i]? = some oi) (hsel : ∀ (j : Nat) (o : Oper) cs b, ops[j]? = some o → o.op ≠ .select cs b)
    (hQ : ∀ c (a a' : Act) w, a.defers = a'.defers → Q (.panic c) a w → Q (.panic c) a' w) (n : Nat) (hT : ∀ t ∈ T, i ∈ waitsFor md ops n t) :
    ∀ (fuel : Nat) (listed : Array Bool) (a : Act) (w : World), downC md ops listed →
      (∀ j oj, ops[j]? = some oj → j ≠ i → listed.getD j true = false → (∀ e ∈ oj.after, Region.binds md e = true → e.on ≠ i) → oi.apart ops oj = true) →
      i ∈ Region.ready md ops listed → YieldsG P ops G w oi v a →
      wpG P md ops Q G T fuel (listed.setIfInBounds i true) (a.put oi.dst v) w → wpG P md ops Q G T (fuel + 1) listed a w := by
  intro fuel
  induction fuel with
  | zero =>
    intro listed a w hdc _ hr hy H
    refine ⟨fun h => (by rw [h] at hr; cases hr), fun j hj w' hw' => ?_⟩
    by_cases hji : j = i
    · subst hji
      exact hy.wpOp hrf hi hw' fun w'' hw'' => ⟨fun _ => hw'', wpG_ext ht H (ht _ _ _ hw' hw'')⟩
    · have := ready_mono hj hji
      rw [H.1] at this
      cases this
  | succ fuel ih =>
    intro listed a w hdc hfree hr hy H
    refine ⟨fun h => (by rw [h] at hr; cases hr), fun j hj w' hw' => ?_⟩
    by_cases hji : j = i
    · subst hji
      exact hy.wpOp hrf hi hw' fun w'' hw'' => ⟨fun _ => hw'', wpG_ext ht H (ht _ _ _ hw' hw'')⟩
    · have h1 := H.2 j (ready_mono hj hji) w' hw'
      obtain ⟨hjun, oj, hoj, hall⟩ := mem_ready.1 hj
      have hun : listed.getD i true = false := (mem_ready.1 hr).1
      have hun2 : listed.getD i false = false := by
        rcases Nat.lt_or_ge i listed.size with h' | h'
        · simpa [h'] using hun
        · simp [Array.getElem?_eq_none h'] at hun
      have hnot : ∀ e ∈ oj.after, Region.binds md e = true → e.on ≠ i := fun e he hb heq => by
        have h1 := hall e he hb
        rw [heq, hun2] at h1; cases h1
      have hjT : j ∉ T := fun hjt => by
        have := ready_waits hdc hj (hT j hjt)
        rw [hun2] at this; cases this
      have h2 := wpOp_putG (G := G) hoj (hfree j oj hoj hji hjun hnot) (fun cs b => hsel i oi cs b hi) (fun cs b => hsel j oj cs b hoj) (fun c a w h => hQ c _ _ w (by cases oi.dst <;> rfl) h) (hy.ext ht hw') h1
      have hfree' : ∀ k ok, ops[k]? = some ok → k ≠ i → (listed.setIfInBounds j true).getD k true = false →
          (∀ e ∈ ok.after, Region.binds md e = true → e.on ≠ i) → oi.apart ops ok = true := fun k ok hk hki hun hno => by
        refine hfree k ok hk hki ?_ hno
        by_cases hjk : j = k
        · subst hjk; exact hjun
        · rw [getD_set_ne true hjk] at hun; exact hun
      refine wpOp_mono (fun a' w'' h3 => ⟨h3.2.1, ?_⟩) h2
      obtain ⟨hy', hG, h4⟩ := h3
      refine ih (listed.setIfInBounds j true) a' w'' (downC_set hdc hj) hfree' (ready_mono hr (Ne.symm hji)) (hy'.ext ht (hG hjT)) ?_
      rw [Array.setIfInBounds_comm _ _ hji]
      exact h4

/-- The looking operations, as they are walked. -/
def wpLooksG {ι : Type} (P : Program) (ops : Array Oper) (G : World → World → Prop) (W : ι → World) (K : Act → Prop) : List Oper → Act → Prop
  | [], a => K a
  | o :: rest, a => if Region.wanted o (yielded ops a.tmps) then o.looksG P G a W (wpLooksG P ops G W K rest) else wpLooksG P ops G W K rest (a.put o.dst undef)
theorem wpLooksG_nil {ι : Type} {W : ι → World} {K : Act → Prop} {a : Act} (h : K a) : wpLooksG P ops G W K [] a := h
theorem wpLooksG_step {ι : Type} {W : ι → World} {K0 : Act → Prop} {a : Act} {o : Oper} {rest : List Oper}
    (h : ∀ K : Act → Prop, (∀ a, wpLooksG P ops G W K0 rest a → K a) → if Region.wanted o (yielded ops a.tmps) then o.looksG P G a W K else K (a.put o.dst undef)) : wpLooksG P ops G W K0 (o :: rest) a :=
  h _ (fun _ h => h)
def permG (md : Region.Mode) (ops : Array Oper) (T : List Nat) (m : Nat) : List Nat → Array Bool → Bool
  | [], _ => true
  | i :: hd, listed => (Region.ready md ops listed).contains i && Region.free md ops listed i && (T.all fun t => (waitsFor md ops m t).contains i) && permG md ops T m hd (listed.setIfInBounds i true)
def downB (md : Region.Mode) (ops : Array Oper) (listed : Array Bool) : Bool := (List.range ops.size).all fun j => !(listed.getD j false) || ((ops[j]?).map fun o => o.after.all fun e => !(Region.binds md e) || listed.getD e.on false).getD true
theorem downB_spec {listed : Array Bool} (h : downB md ops listed = true) : downC md ops listed := by
  intro j oj hj hl e he hb
  unfold downB at h
  rw [List.all_eq_true] at h
  have := h j (List.mem_range.2 (Array.getElem?_eq_some_iff.1 hj).1)
  rw [hl, hj] at this
  simp only [Bool.not_true, Bool.false_or, Option.map_some, Option.getD_some, Array.all_eq_true_iff_forall_mem] at this
  have := this e he
  rw [hb] at this
  simpa using this
theorem wpG_looks_aux {ι : Type} {W : ι → World} (hrf : ∀ a, G a a) (ht : ∀ a b c, G a b → G b c → G a c) (hs : Region.noSelect ops = true) (hQ : ∀ c (a a' : Act) w, a.defers = a'.defers → Q (.panic c) a w → Q (.panic c) a' w) (m fuel : Nat) (w : World) (hW : ∀ w', G w w' → ∃ z, w' = W z) :
    ∀ (hd : List Nat) (lh : List Oper) (listed : Array Bool) (a : Act), hd.mapM (fun i => ops[i]?) = some lh → downC md ops listed → permG md ops T m hd listed = true →
    wpLooksG P ops G W (fun a' => wpG P md ops Q G T fuel (setAll listed hd) a' w) lh a → wpG P md ops Q G T (hd.length + fuel) listed a w
  | [], lh, listed, a, hl, _, _, h => by
    simp at hl; subst hl
    have e : ([] : List Nat).length + fuel = fuel := by simp
    rw [e]; exact h
  | i :: hd, lh, listed, a, hl, hdc, hB, h => by
    simp only [List.mapM_cons, Option.bind_eq_bind, Option.pure_def] at hl
    cases hi : ops[i]? with
    | none => simp [hi] at hl
    | some o =>
      cases hr : hd.mapM (fun i => ops[i]?) with
      | none => simp [hi, hr] at hl
      | some l' =>
        simp [hi, hr] at hl
        subst hl
        simp only [permG, Bool.and_eq_true, List.all_eq_true, List.contains_iff_mem] at hB
        obtain ⟨⟨⟨hB1, hB2⟩, hB3⟩, hB4⟩ := hB
        rw [show (i :: hd).length + fuel = (hd.length + fuel) + 1 by simp; omega]
        unfold wpLooksG at h
        split at h
        · rename_i hw
          obtain ⟨v, hv, hk⟩ := h
          exact wpG_first hrf ht hi (Region.noSelect_spec hs) hQ m hB3 _ listed a w hdc (Region.free_spec hi hB2) hB1 (.inl ⟨hw, fun w' hw' => by
            obtain ⟨z, rfl⟩ := hW w' hw'
            exact hv z⟩) (wpG_looks_aux hrf ht hs hQ m fuel w hW hd l' _ _ hr (downC_set hdc hB1) hB4 hk)
        · rename_i hw
          exact wpG_first hrf ht hi (Region.noSelect_spec hs) hQ m hB3 _ listed a w hdc (Region.free_spec hi hB2) hB1 (.inr ⟨by simpa using hw, rfl⟩) (wpG_looks_aux hrf ht hs hQ m fuel w hW hd l' _ _ hr (downC_set hdc hB1) hB4 h)
/-- The operations, written out. -/
def nthO : List Oper → Nat → Option Oper
  | [], _ => none
  | o :: _, 0 => some o
  | _ :: l, n + 1 => nthO l n
theorem nthO_eq : ∀ (l : List Oper) (n : Nat), nthO l n = l[n]?
  | [], n => by simp [nthO]
  | _ :: _, 0 => rfl
  | _ :: l, n + 1 => by unfold nthO; rw [nthO_eq l n]; rfl
def picks (l : List Oper) : List Nat → Option (List Oper)
  | [] => some []
  | i :: hd => match nthO l i, picks l hd with
    | some o, some r => some (o :: r)
    | _, _ => none
theorem picks_eq (l : List Oper) : ∀ (hd : List Nat) (lh : List Oper), picks l hd = some lh → hd.mapM (fun i => l.toArray[i]?) = some lh
  | [], lh, h => by simp [picks] at h; subst h; rfl
  | i :: hd, lh, h => by
    unfold picks at h
    split at h
    · rename_i o r h1 h2
      injection h with h; subst h
      rw [List.mapM_cons, picks_eq l hd r h2]
      rw [nthO_eq] at h1
      simp [h1]
    · cases h
/-- What looks comes first; W z: the worlds in which it may look. -/
theorem wpG_looks {l : List Oper} {n : Nat} {lh : List Oper} {listed : Array Bool} {a : Act} {w : World} (fuel m : Nat) (hd : List Nat) (hn : n = hd.length + fuel) (hrf : ∀ a, G a a) (ht : ∀ a b c, G a b → G b c → G a c) (hs : Region.noSelect l.toArray = true) (hQ : ∀ c (a a' : Act) w, a.defers = a'.defers → Q (.panic c) a w → Q (.panic c) a' w)
    (hl : picks l hd = some lh) (hB : (downB md l.toArray listed && permG md l.toArray T m hd listed) = true)
    (h : ∀ (ι : Type) (W : ι → World), Nonempty ι → Hid (∀ z, G w (W z)) → wpLooksG P l.toArray G W (fun a' => wpG P md l.toArray Q G T fuel (setAll listed hd) a' w) lh a) : wpG P md l.toArray Q G T n listed a w := by
  subst hn
  rw [Bool.and_eq_true] at hB
  obtain ⟨ι, W, hne, hW, hWs⟩ := classFam (G w) (hrf w)
  exact wpG_looks_aux hrf ht hs hQ m fuel w hWs hd lh listed a (picks_eq l hd lh hl) (downB_spec hB.1) hB.2 (h ι W hne (Lib.hid hW))
/-- One operation alone is ready. -/
theorem wpG_force {l : List Oper} {fuel : Nat} {listed : Array Bool} {a : Act} {w : World} (t : Nat) (o : Oper) (ho : nthO l t = some o) (hr : (Region.ready md l.toArray listed == [t]) = true) (hg : o.guard = none)
    (h : ∀ w', G w w' → ∀ K : Act → World → Prop, (∀ a' w'', (t ∉ T → G w' w'') → wpG P md l.toArray Q G T fuel (listed.setIfInBounds t true) a' w'' → K a' w'') → o.wp P a w' K Q) : wpG P md l.toArray Q G T (fuel + 1) listed a w := by
  have ho : l.toArray[t]? = some o := by rw [← ho, nthO_eq]; simp
  have hr' : Region.ready md l.toArray listed = [t] := by simpa using hr
  refine ⟨fun h0 => (by rw [hr'] at h0; cases h0), fun i hi w' hw' => ?_⟩
  rw [hr'] at hi
  obtain rfl : i = t := by simpa using hi
  unfold Go.wpOp
  simp only [ho]
  rw [if_pos (by simp [Region.wanted, hg])]
  exact .inl (h w' hw' _ fun a' w'' h1 h2 => ⟨h1, h2⟩)
theorem wpG_end {listed : Array Bool} {a : Act} {w : World} (hr : (Region.ready md ops listed).isEmpty = true) (h : ∀ w', G w w' → Q .normal a w') : ∀ fuel, wpG P md ops Q G T fuel listed a w
  | 0 => ⟨by simpa using hr, h⟩
  | _ + 1 => ⟨fun _ => h, fun i hi => by
      have : Region.ready md ops listed = [] := by simpa using hr
      rw [this] at hi; cases hi⟩
/-- A new variable of a struct's type, and the value stored into it. -/
theorem wpG_new {l : List Oper} {α : Type} [Enc α] {fuel : Nat} {listed : Array Bool} {t : TypeId} {a : Act} {w : World} (t1 t2 : Nat) (o1 o2 : Oper) (ho1 : nthO l t1 = some o1) (ho2 : nthO l t2 = some o2) (hr1 : (Region.ready md l.toArray listed == [t1]) = true) (hr2 : (Region.ready md l.toArray (listed.setIfInBounds t1 true) == [t2]) = true) (hg1 : o1.guard = none) (hg2 : o2.guard = none) (hT : T.contains t2 = true) (x y : Operand) (hp1 : o1.op = .alloc t) (hp2 : o2.op = .store t x y) (z u : α)
    (hal : ∀ w, (gAlloc t).run P w = .ok (.pointer (some ⟨w.heap.size, 0, none⟩)) (w.alloc (.cells (Enc.enc z).toArray t))) (ha : sizeT P t = Enc.n α)
    (hx : ∀ p, (a.put o1.dst p).eval x = p) (hy : ∀ p, (a.put o1.dst p).eval y = .agg (Enc.enc u).toArray)
    (hGa : ∀ w o, G w (w.alloc o)) (hGb : ∀ a b, G a b → Bel a b)
    (h : ∀ (g : Nat) (w1 w2 : World), G w w1 → g = w1.heap.size → Bel w1 w2 → get? α w2 ⟨g, 0, none⟩ = some u → g < w2.heap.size → wpG P md l.toArray Q G T fuel ((listed.setIfInBounds t1 true).setIfInBounds t2 true) ((a.put o1.dst (.pointer (some ⟨g, 0, none⟩))).put o2.dst undef) w2) : wpG P md l.toArray Q G T (fuel + 1 + 1) listed a w := by
  refine wpG_force t1 o1 ho1 hr1 hg1 fun w1 hw1 K hK => ?_
  have e1 := hal w1
  unfold gAlloc at e1
  unfold Oper.wp execOp
  simp only [hp1, Sem.run_bind]
  rw [e1]
  refine hK _ _ (fun _ => hGa _ _) ?_
  refine wpG_force t2 o2 ho2 hr2 hg2 fun w2 hw2 K hK => ?_
  have hbel := hGb _ _ hw2
  have hlt : w1.heap.size < (w1.alloc (.cells (Enc.enc z).toArray t)).heap.size := by simp
  have hget : get? α w2 ⟨w1.heap.size, 0, none⟩ = some z := (get?_below hbel (by exact hlt)).trans (get?_new t z)
  have hfree : blkFree w2 w1.heap.size = true := (blkFree_keep (hbel.block _ hlt)).trans (blkFree_new _ _ rfl)
  have hst := run_gStore (P := P) (t := t) (w := w2) (a := ⟨w1.heap.size, 0, none⟩) ha u (Option.isSome_iff_exists.2 ⟨z, hget⟩) hfree
  unfold gStore at hst
  unfold Oper.wp execOp
  simp only [hp2, Sem.run_bind, hx, hy]
  rw [hst]
  have hsz := hbel.size
  simp only [World.size_alloc] at hsz
  refine hK _ _ (fun hne => absurd (by simpa using hT) hne) (h _ w1 _ hw1 rfl ?_ ?_ ?_)
  · exact Below_putCells (Below.trans ((Below.refl _ _).alloc (Nat.le_refl _) _) (Below.mono hbel (by simp))) (Nat.le_refl _) _
  · rw [get?_iff]
    intro j v hj
    have hjl : j < Enc.n α := by have := (List.getElem?_eq_some_iff.1 hj).1; rwa [Enc.len] at this
    have hadd : ∀ i, (⟨w1.heap.size, 0, none⟩ : Addr).add i = ⟨w1.heap.size, i, none⟩ := fun i => by unfold Addr.add; split <;> simp_all
    rw [hadd]
    have hc := get?_iff.1 hget j ((Enc.enc z)[j]'(by rw [Enc.len]; exact hjl)) (List.getElem?_eq_getElem _)
    rw [hadd] at hc
    unfold World.putCells
    rw [cell_putFrom (a := ⟨w1.heap.size, 0, none⟩) rfl (Enc.enc u) 0 w2 ⟨w1.heap.size, j, none⟩ rfl (by rw [hc]; rfl)]
    rw [if_pos ⟨rfl, by simp, by simpa [Enc.len] using hjl⟩]
    simpa using hj
  · rw [size_putCells]; omega
theorem wp_region_G {id : Nat} {a : Act} {w : World} {l : List Oper} (G : World → World → Prop) (T : List Nat) (hrf : ∀ a, G a a) (hm : P.follows .mixedOrders = true)
    (h : wpG P .any l.toArray Q G T l.toArray.size (Array.replicate l.toArray.size false) a w.drew) : (Code.region id l.toArray true).wp P Q a w :=
  wp_region_any hm (wpAny_of_G hrf _ _ _ _ h)
end

/-- New blocks and draws; what was there stands. -/
def GB (w w' : World) : Prop := Below w.heap.size w w'
theorem GB.rf (a : World) : GB a a := Below.refl _ _
theorem GB.tr (a b c : World) (h : GB a b) (k : GB b c) : GB a c := Below.trans h (Below.mono k (Below.size h))
theorem GB.drewN (a : World) (n : Nat) : GB a (a.drewN n) := bdN (Below.refl _ _) n
theorem GB.al (w : World) (o : Obj) : GB w (w.alloc o) := (Below.refl _ _).alloc (Nat.le_refl _) o
theorem GB.bel (a b : World) (h : GB a b) : Bel a b := h
theorem GB.undrew {w w' : World} (h : GB w.drew w') : Bel w w' := by
  have h0 : Below w.drew.heap.size w.drew w' := h
  exact ⟨h0.os, h0.tape, h0.output, h0.size, h0.block⟩
theorem GB.cell {w w' : World} (h : GB w w') {p : Addr} {v : Value} (hc : w.cell? p = some v) : w'.cell? p = some v := (Below.cell h (World.block_lt_of_cell? w _ hc)).trans hc
theorem GB.get {α : Type} [Enc α] {w w' : World} (h : GB w w') {p : Addr} {x : α} (hc : get? α w p = some x) : get? α w' p = some x := (get?_below h (get?_lt hc)).trans hc
theorem quietG {P : Program} {f : FuncId} {args : Array Value} {w : World} {v : Value} {R : Ending → World → Prop} (h : Calls P f args w R) (hR : ∀ e w', R e w' → e = .returned v ∧ w' = w) : Calls P f args w fun e w' => e = .returned v ∧ GB w w' :=
  h.mono fun e w' h => by obtain ⟨h1, h2⟩ := hR e w' h; subst h2; exact ⟨h1, GB.rf _⟩
/-- .. but for one block. -/
def GX (r : Nat) (w w' : World) : Prop := w.grownBy w' (some r)
theorem GX.rf {r : Nat} (a : World) : GX r a a := ⟨rfl, rfl, rfl, Nat.le_refl _, fun _ _ _ => rfl⟩
theorem GX.tr {r : Nat} (a b c : World) (h : GX r a b) (k : GX r b c) : GX r a c := World.grownBy.trans h k
end Go.Gv
/- Words: numbers in texts, errors told, a text's words. Conditions: those named in each theorem. -/
namespace Go.Proofs.YteockodnfempfaaGreatDoor
open Go Go.RowKit Go.Gv Go.Proofs

def digB (c : UInt8) : Bool := decide (48 ≤ c.toNat) && decide (c.toNat ≤ 57)
def numN (l : List UInt8) : Nat := l.foldl (fun n c => 10 * n + (c.toNat - 48)) 0
theorem numN_snoc (l : List UInt8) (c : UInt8) : numN (l ++ [c]) = 10 * numN l + (c.toNat - 48) := by unfold numN; simp
theorem take_snocU (s : ByteArray) (k : Nat) (h : k < s.size) : s.data.toList.take (k + 1) = s.data.toList.take k ++ [s[k]] := by
  rw [List.take_succ_eq_append_getElem (by simpa using h)]; rfl
theorem numN_lt (s : ByteArray) : ∀ (k : Nat), k ≤ s.size → (s.data.toList.take k).all digB = true → numN (s.data.toList.take k) < 10 ^ k
  | 0, _, _ => by simp [numN]
  | k + 1, hk, hd => by
    have hlt : k < s.size := hk
    rw [take_snocU s k hlt] at hd ⊢
    rw [List.all_append, Bool.and_eq_true] at hd
    have ih := numN_lt s k (by omega) hd.1
    have hc : digB s[k] = true := by simpa using hd.2
    unfold digB at hc
    simp only [Bool.and_eq_true, decide_eq_true_eq] at hc
    rw [numN_snoc, Nat.pow_succ]
    omega
theorem numN_14 {s : ByteArray} {k : Nat} (hk : k ≤ s.size) (h14 : k ≤ 14) (hd : (s.data.toList.take k).all digB = true) : numN (s.data.toList.take k) < 100000000000000 :=
  Nat.lt_of_lt_of_le (numN_lt s k hk hd) (Nat.pow_le_pow_right (by decide) h14 : 10 ^ k ≤ 10 ^ 14)
theorem numN_15 {s : ByteArray} (h15 : s.size ≤ 15) (hd : s.data.toList.all digB = true) : numN s.data.toList < 1000000000000000 := by
  have h1 : s.data.toList.take s.size = s.data.toList := List.take_of_length_le (by simp)
  have := numN_lt s s.size (Nat.le_refl _) (by rw [h1]; exact hd)
  rw [h1] at this
  exact Nat.lt_of_lt_of_le this (Nat.pow_le_pow_right (by decide) h15 : 10 ^ s.size ≤ 10 ^ 15)
def nought (s : ByteArray) : Bool := if h : 1 < s.size then decide ((s[0]'(by omega)).toNat = 48) else false
def numB (s : ByteArray) : Bool := decide (1 ≤ s.size) && (decide (s.size ≤ 15) && (!nought s && s.data.toList.all digB))
def numI (s : ByteArray) : Int := if numB s = true then (numN s.data.toList : Int) else 0
theorem numB_bad {s : ByteArray} {k : Nat} (h : k < s.size) (hc : digB s[k] = false) : numB s = false := by
  have : s.data.toList.all digB = false := by
    rw [List.all_eq_false]
    exact ⟨s[k], by
      have e : s[k] = s.data.toList[k]'(by simpa using h) := rfl
      rw [e]; exact List.getElem_mem _, by rw [hc]; simp⟩
  unfold numB
  rw [this]; simp
theorem numI_no {s : ByteArray} (h : numB s = false) : numI s = 0 := by unfold numI; rw [h]; rfl
theorem numI_yes {s : ByteArray} (h : numB s = true) : numI s = (numN s.data.toList : Int) := by unfold numI; rw [if_pos h]
theorem numI_bound (s : ByteArray) : 0 ≤ numI s ∧ numI s < 1000000000000000 := by
  cases hb : numB s
  · rw [numI_no hb]; omega
  · rw [numI_yes hb]
    unfold numB at hb
    simp only [Bool.and_eq_true, decide_eq_true_eq] at hb
    have := numN_15 hb.2.1 hb.2.2.2
    omega
set_option maxRecDepth 100000 in
set_option maxHeartbeats 1000000 in
theorem number_any (s : ByteArray) (w : World) (hs : s.size ≤ maxLen) :
    Calls Tryz.prog 40 #[.string s, .int .i64 15] w fun e w' => e = .returned (.tuple #[.int .i64 (numI s), .bool (numB s)]) ∧ w' = w := by
  unfold maxLen at hs
  by_cases h1 : 1 ≤ s.size
  · by_cases h15 : s.size ≤ 15
    · obtain ⟨c0, hc0⟩ : ∃ c, s[0]'(by omega) = c := ⟨_, rfl⟩
      have p1 : ¬ (s.size : Int) < 1 := by omega
      have p2 : ¬ (15 : Int) < (s.size : Int) := by omega
      have p3 : (0 : Int) < (s.size : Int) := by omega
      by_cases hn : nought s = true
      · have HB := Lib.hid (show numB s = false by unfold numB; rw [hn]; simp)
        have hn2 : 1 < s.size ∧ c0.toNat = 48 := by
          unfold nought at hn
          split at hn
          · rename_i h; rw [hc0] at hn; exact ⟨h, of_decide_eq_true hn⟩
          · cases hn
        obtain ⟨q1, q2⟩ := hn2
        have q3 : (1 : Int) < (s.size : Int) := by omega
        have q4 : (c0.toNat : Int) = 48 := by omega
        go_enter Tryz.func40, Tryz.ntmps40
        go_wp2_with fail
        go_ret2
        exact ⟨by rw [HB.out, numI_no HB.out]; rfl, rfl⟩
      · have HNN := Lib.hid (show nought s = false by simpa using hn)
        have hor : (c0.toNat = 48 ∧ ¬ 1 < s.size) ∨ c0.toNat ≠ 48 := by
          by_cases h : c0.toNat = 48
          · refine .inl ⟨h, fun h2 => hn ?_⟩
            unfold nought
            rw [dif_pos h2, hc0]
            exact decide_eq_true h
          · exact .inr h
        clear hn
        rcases hor with ⟨q1, q2⟩ | q1
        · have q3 : (c0.toNat : Int) = 48 := by omega
          have q4 : ¬ (1 : Int) < (s.size : Int) := by omega
          clear q1 q2
          go_enter Tryz.func40, Tryz.ntmps40
          go_wp2_with fail
          go_loopw [6, 7] (fun n i wr => ∃ k : Nat, k ≤ s.size ∧ i = .int .i64 k ∧ n = .int .i64 (numN (s.data.toList.take k) : Nat) ∧ Hid ((s.data.toList.take k).all digB = true) ∧ wr = w) (fun _ i _ => s.size - (intOf i).toNat)
          case atStart => exact ⟨0, Nat.zero_le _, rfl, rfl, Lib.hid rfl, rfl⟩
          case round =>
            obtain ⟨k, hk, rfl, rfl, hall, rfl⟩ := hrel
            obtain ⟨v, hv⟩ : ∃ v, numN (s.data.toList.take k) = v := ⟨_, rfl⟩
            rw [hv]
            have HV := Lib.hid hv
            clear hv
            by_cases hlt : k < s.size
            · obtain ⟨c, hc⟩ : ∃ c, s[k] = c := ⟨_, rfl⟩
              have HC := Lib.hid hc
              have hlt2 : (k : Int) < (s.size : Int) := by omega
              have hk0 : (0 : Int) ≤ (k : Int) := by omega
              by_cases hlo : (c.toNat : Int) < 48
              · have HB := Lib.hid (numB_bad hlt (show digB s[k] = false by rw [HC.out]; unfold digB; rw [decide_eq_false (by omega)]; rfl))
                go_wp2_with fail
                go_ret2
                exact ⟨by rw [HB.out, numI_no HB.out]; rfl, rfl⟩
              · by_cases hhi : (57 : Int) < (c.toNat : Int)
                · have HB := Lib.hid (numB_bad hlt (show digB s[k] = false by rw [HC.out]; unfold digB; rw [decide_eq_false (show ¬ c.toNat ≤ 57 by omega), Bool.and_false]))
                  go_wp2_with fail
                  go_ret2
                  exact ⟨by rw [HB.out, numI_no HB.out]; rfl, rfl⟩
                · have hv14 : v < 100000000000000 := by rw [← HV.out]; exact numN_14 hk (by omega) hall.out
                  have HD := Lib.hid (show (s.data.toList.take (k + 1)).all digB = true by
                    rw [take_snocU s k hlt, List.all_append, hall.out, HC.out]
                    have : digB c = true := by unfold digB; rw [decide_eq_true (show 48 ≤ c.toNat by omega), decide_eq_true (show c.toNat ≤ 57 by omega)]; rfl
                    simp [this])
                  obtain ⟨d, hd, hd9⟩ : ∃ d : Nat, c.toNat = d + 48 ∧ d ≤ 9 := ⟨c.toNat - 48, by omega, by omega⟩
                  have HS := Lib.hid (show numN (s.data.toList.take (k + 1)) = 10 * v + d by rw [take_snocU s k hlt, numN_snoc, HV.out, HC.out, hd, Nat.add_sub_cancel])
                  have e1 : IntKind.u8.wrap ((c.toNat : Int) - 48) = (d : Int) := by rw [IntWalk.u8_in _ (by omega)]; omega
                  have e2 : IntKind.i64.wrap (10 * (v : Int)) = 10 * (v : Int) := IntWalk.i64_in _ (by omega)
                  have e3 : IntKind.i64.wrap (d : Int) = (d : Int) := IntWalk.i64_in _ (by omega)
                  have e4 : IntKind.i64.wrap (10 * (v : Int) + (d : Int)) = 10 * (v : Int) + (d : Int) := IntWalk.i64_in _ (by omega)
                  clear hd hall
                  go_wp2_with fail
                  exact ⟨⟨k + 1, by omega, by go_num, by rw [HS.out]; push_cast; rfl, HD, trivial⟩, by simp [intOf]; omega⟩
            · obtain rfl : k = s.size := by omega
              have hn9 : ¬ (s.size : Int) < (s.size : Int) := by omega
              have hd : s.data.toList.all digB = true := by
                have := hall.out
                rwa [List.take_of_length_le (by simp)] at this
              have HB := Lib.hid (show numB s = true by unfold numB; rw [decide_eq_true h1, decide_eq_true h15, HNN.out, hd]; rfl)
              have HVV := Lib.hid (show numN s.data.toList = v by rw [← HV.out, List.take_of_length_le (by simp)])
              clear hd
              go_wp2_with fail
              go_ret2
              exact ⟨by rw [HB.out, numI_yes HB.out, HVV.out]; rfl, rfl⟩
        · have q3 : ¬ (c0.toNat : Int) = 48 := by omega
          clear q1
          go_enter Tryz.func40, Tryz.ntmps40
          go_wp2_with fail
          go_loopw [6, 7] (fun n i wr => ∃ k : Nat, k ≤ s.size ∧ i = .int .i64 k ∧ n = .int .i64 (numN (s.data.toList.take k) : Nat) ∧ Hid ((s.data.toList.take k).all digB = true) ∧ wr = w) (fun _ i _ => s.size - (intOf i).toNat)
          case atStart => exact ⟨0, Nat.zero_le _, rfl, rfl, Lib.hid rfl, rfl⟩
          case round =>
            obtain ⟨k, hk, rfl, rfl, hall, rfl⟩ := hrel
            obtain ⟨v, hv⟩ : ∃ v, numN (s.data.toList.take k) = v := ⟨_, rfl⟩
            rw [hv]
            have HV := Lib.hid hv
            clear hv
            by_cases hlt : k < s.size
            · obtain ⟨c, hc⟩ : ∃ c, s[k] = c := ⟨_, rfl⟩
              have HC := Lib.hid hc
              have hlt2 : (k : Int) < (s.size : Int) := by omega
              have hk0 : (0 : Int) ≤ (k : Int) := by omega
              by_cases hlo : (c.toNat : Int) < 48
              · have HB := Lib.hid (numB_bad hlt (show digB s[k] = false by rw [HC.out]; unfold digB; rw [decide_eq_false (by omega)]; rfl))
                go_wp2_with fail
                go_ret2
                exact ⟨by rw [HB.out, numI_no HB.out]; rfl, rfl⟩
              · by_cases hhi : (57 : Int) < (c.toNat : Int)
                · have HB := Lib.hid (numB_bad hlt (show digB s[k] = false by rw [HC.out]; unfold digB; rw [decide_eq_false (show ¬ c.toNat ≤ 57 by omega), Bool.and_false]))
                  go_wp2_with fail
                  go_ret2
                  exact ⟨by rw [HB.out, numI_no HB.out]; rfl, rfl⟩
                · have hv14 : v < 100000000000000 := by rw [← HV.out]; exact numN_14 hk (by omega) hall.out
                  have HD := Lib.hid (show (s.data.toList.take (k + 1)).all digB = true by
                    rw [take_snocU s k hlt, List.all_append, hall.out, HC.out]
                    have : digB c = true := by unfold digB; rw [decide_eq_true (show 48 ≤ c.toNat by omega), decide_eq_true (show c.toNat ≤ 57 by omega)]; rfl
                    simp [this])
                  obtain ⟨d, hd, hd9⟩ : ∃ d : Nat, c.toNat = d + 48 ∧ d ≤ 9 := ⟨c.toNat - 48, by omega, by omega⟩
                  have HS := Lib.hid (show numN (s.data.toList.take (k + 1)) = 10 * v + d by rw [take_snocU s k hlt, numN_snoc, HV.out, HC.out, hd, Nat.add_sub_cancel])
                  have e1 : IntKind.u8.wrap ((c.toNat : Int) - 48) = (d : Int) := by rw [IntWalk.u8_in _ (by omega)]; omega
                  have e2 : IntKind.i64.wrap (10 * (v : Int)) = 10 * (v : Int) := IntWalk.i64_in _ (by omega)
                  have e3 : IntKind.i64.wrap (d : Int) = (d : Int) := IntWalk.i64_in _ (by omega)
                  have e4 : IntKind.i64.wrap (10 * (v : Int) + (d : Int)) = 10 * (v : Int) + (d : Int) := IntWalk.i64_in _ (by omega)
                  clear hd hall
                  go_wp2_with fail
                  exact ⟨⟨k + 1, by omega, by go_num, by rw [HS.out]; push_cast; rfl, HD, trivial⟩, by simp [intOf]; omega⟩
            · obtain rfl : k = s.size := by omega
              have hn9 : ¬ (s.size : Int) < (s.size : Int) := by omega
              have hd : s.data.toList.all digB = true := by
                have := hall.out
                rwa [List.take_of_length_le (by simp)] at this
              have HB := Lib.hid (show numB s = true by unfold numB; rw [decide_eq_true h1, decide_eq_true h15, HNN.out, hd]; rfl)
              have HVV := Lib.hid (show numN s.data.toList = v by rw [← HV.out, List.take_of_length_le (by simp)])
              clear hd
              go_wp2_with fail
              go_ret2
              exact ⟨by rw [HB.out, numI_yes HB.out, HVV.out]; rfl, rfl⟩
    · have HB := Lib.hid (show numB s = false by unfold numB; rw [decide_eq_false h15]; simp)
      have p1 : ¬ (s.size : Int) < 1 := by omega
      have p2 : (15 : Int) < (s.size : Int) := by omega
      go_enter Tryz.func40, Tryz.ntmps40
      go_wp2_with fail
      go_ret2
      exact ⟨by rw [HB.out, numI_no HB.out]; rfl, rfl⟩
  · have HB := Lib.hid (show numB s = false by unfold numB; rw [decide_eq_false h1]; simp)
    have p1 : (s.size : Int) < 1 := by omega
    go_enter Tryz.func40, Tryz.ntmps40
    go_wp2_with fail
    go_ret2
    exact ⟨by rw [HB.out, numI_no HB.out]; rfl, rfl⟩
/-- A text's words, by one blank each. -/
def wordsM (s : ByteArray) : List ByteArray := Lib.splitB ⟨#[32]⟩ 0 (Lib.countB s ⟨#[32]⟩) s
theorem wordsM_len (s : ByteArray) : (wordsM s).length = Lib.countB s ⟨#[32]⟩ + 1 := Lib.splitB_all ⟨#[32]⟩ (by decide) 0 _ s rfl
/-- What the library's functions ask of the world: two package-level variables. -/
structure LibIs (w : World) : Prop where
  most : ∃ m : Int, w.cell? ⟨Tryz.split_ren.g 1, 0, none⟩ = some (.int .i64 m)
  tab : Lib.TabIs Tryz.prog w "internal/strconv.uint64pow10" .u64 Lib.pow10Tab
theorem strs_enc : ∀ (L : List ByteArray), (L.map StrV.mk).flatMap Enc.enc = L.map Value.string
  | [] => rfl
  | s :: L => by rw [List.map_cons, List.flatMap_cons, strs_enc L]; rfl
theorem words_any (s : ByteArray) (w : World) (hs : s.size < 4294967281) (h : LibIs w) :
    Calls Tryz.prog 37 #[.string s] w fun e w' => ∃ A, e = .returned (.slice A (wordsM s).length (wordsM s).length) ∧ Sl StrV w' w'.heap.size A (wordsM s).length ((wordsM s).map StrV.mk) ∧ Bel w w' := by
  obtain ⟨m, hm⟩ := h.most
  go_enter Tryz.func37, Tryz.ntmps37
  go_wp2_with fail
  refine (Any.strings_Split { Tryz.split with } Tryz.split.i9 s ⟨#[32]⟩ m w hs hm (by decide)).mono ?_
  rintro _ w1 ⟨rfl, rfl⟩
  rw [← wordsM_len]
  go_wp2_with fail
  go_ret
  exact ⟨_, rfl, Sl.new_ (by rw [strs_enc]; rfl) (by rw [List.length_map]) rfl (by simp), (Bel.refl w).alloc _⟩
def toldB (e : Nat) : ByteArray := if e = 0 then ⟨#[111, 107]⟩ else ⟨#[101, 114, 114, 111, 114, 32]⟩ ++ ⟨(Lib.decDigits e).toArray⟩
theorem digits_short : ∀ e < 100, (Lib.decDigits e).length ≤ 2 := by decide +kernel
theorem told_any (e : Nat) (w : World) (he : e < 100) :
    Calls Tryz.prog 38 #[.int .i64 (e : Int)] w fun r w' => r = .returned (.string (toldB e)) ∧ w' = w := by
  by_cases h0 : e = 0
  · subst h0
    go_enter Tryz.func38, Tryz.ntmps38
    go_wp2_with fail
    go_ret
    exact ⟨rfl, rfl⟩
  · have hT := Lib.hid (show toldB e = ⟨#[101, 114, 114, 111, 114, 32]⟩ ++ ⟨(Lib.decDigits e).toArray⟩ by unfold toldB; rw [if_neg h0])
    have h1 : ¬ (e : Int) = 0 := by omega
    have h2 := digits_short e he
    have h3 : ¬ 9223372036854775807 < 6 + (Lib.decDigits e).length := by omega
    go_enter Tryz.func38, Tryz.ntmps38
    go_wp2_with fail
    refine (Any.strconv_Itoa_small { Tryz.itoa with } e he w).mono ?_
    rintro _ w1 ⟨rfl, rfl⟩
    go_wp2_with fail
    go_ret
    exact ⟨by rw [hT.out]; rfl, rfl⟩
end Go.Proofs.YteockodnfempfaaGreatDoor
/- What the frames of this seat's laws share: the listed variables, the world of the witness, the wrap that hands the world's shape on. Conditions: those named in each theorem. -/
namespace Go.Proofs.YteockodnfempfaaGreatDoor
open Go Go.RowKit Go.Gv Go.ChangeShapes Go.WideShapes Go.ChangeAt

/-- The wrap of a law with listed variables: the contract is handed what they hold, and the world's shape. -/
theorem returns_laid {H : Type} {enc : TypeId × Value → H} {a : Assume} {C : Checked} {os : Os} {f : FuncId} {fn : Func} {s : ChangeSpec} {conds : List PathCond} {apart fresh handsOn again : Bool} {laid : List (String × DataW Unit)}
    (own : ownKnob C.prog.godebug = none) (started : os.Started) (noInit : C.prog.inits.idxOf? f = none) (hfn : C.prog.funcs[f]? = some fn)
    (witness : ∃ (w : World) (tape : Tape) (i : Input), w.os = os ∧ (w.forCall tape i).Shaped C.prog ∧ i.vars = [] ∧ Input.okWide C.prog (w.forCall tape i) .any w.heap.size f i ∧
      ((s.pre enc C.prog fn conds apart (w.forCall tape i).memory i.args ∧ laidMetH C.prog laid (w.forCall tape i).memory) ∧ sizedMet enc C.prog fn (OpenSpec.ofChange s) apart (w.forCall tape i).memory i.args) ∧ a.holds C.prog (lone (Frame.enter C.prog f i.args .normal) [] (w.forCall tape i)))
    (contract : ∀ (W : World) (base : Nat) (args : Array Value) (ds gs : List (DataW H)) (before : List MemPlace),
      (∀ (j : Nat) t v, fn.params[j]? = some t → args[j]? = some v → Value.okWide C.prog W .any base t v) →
      DataW.Whole enc C.prog fn.params.toList s.vars apart W args.toList ds gs before → laidMetH C.prog laid W → W.ShapedOpen C.prog →
      Calls C.prog f args W fun e W' => ∃ v, e = .returned v ∧ s.post enc C.prog fn apart fresh handsOn again W args v W') :
    ReturnsInHanded a C os f .any (fun w args => (s.pre enc C.prog fn conds apart w args ∧ laidMetH C.prog laid w) ∧ sizedMet enc C.prog fn (OpenSpec.ofChange s) apart w args) (s.post enc C.prog fn apart fresh handsOn again) := by
  refine returnsInHanded_of_calls own started noInit witness ?_
  intro w tape i _ hsh _ hok hpre _
  obtain ⟨_, _, _, fn', hfn', _, _, _, _, hval⟩ := hok
  have e : fn' = fn := Option.some.inj (hfn'.symm.trans hfn)
  subst e
  obtain ⟨⟨⟨ds, gs, before, hw, _⟩, hx⟩, _⟩ := hpre
  have hw' := DataW.Whole.of_heap (w' := w.forCall tape i) (by rfl) hw
  refine (contract (w.forCall tape i) w.heap.size i.args ds gs before hval hw' (hx.of_heap (by rfl)) hsh).mono fun e W' ⟨v, he, hp⟩ => ?_
  subst he
  exact ChangeSpec.post_blind hp

/-- The variables that each row of this seat lists. -/
def laidL : List (String × DataW Unit) := [("math/bits.deBruijn32tab", Rows.laid_math_bits_deBruijn32tab), ("math/bits.deBruijn64tab", Rows.laid_math_bits_deBruijn64tab), ("internal/strconv.uint64pow10", Rows.laid_internal_strconv_uint64pow10), ("unicode/utf8.acceptRanges", Rows.laid_unicode_utf8_acceptRanges), ("unicode/utf8.first", Rows.laid_unicode_utf8_first)]
theorem laid_plain : (laidL.all fun x => x.2.handleName?.isNone) = true := by kernel_rfl
theorem pow10_laid : (Rows.laid_internal_strconv_uint64pow10 : DataW Unit) = Lib.tabData .u64 Lib.pow10Tab := by kernel_rfl
theorem libIs_of {W : World} (h : laidMetH Tryz.prog laidL W) (hs : W.ShapedOpen Tryz.prog) : LibIs W := by
  rw [MakeChecks.laidMetH_plain _ _ _ laid_plain] at h
  have h2 := laidMet.tail (laidMet.tail h)
  rw [pow10_laid] at h2
  exact ⟨Tryz.split.s1_3 W hs, Lib.tabIs_of_head (g := 1) (t := 198) (e := 26) (n := 20) (by kernel_rfl) (by kernel_rfl) Tryz.underlying198 Tryz.underlying26 (by kernel_rfl) (by kernel_rfl) h2⟩

theorem wit_fits (os : Os) : (World.holding Tryz.prog os ⟨#[], #[], []⟩).layFits Tryz.prog laidL [] = true := by kernel_rfl
theorem wit_ifaces (os : Os) : (World.holding Tryz.prog os ⟨#[], #[], []⟩).layIfaces Tryz.prog laidL (World.laidAll Tryz.prog os laidL) = true := by kernel_rfl
theorem wit_laid (os : Os) (args : Array Value) : laidMetH Tryz.prog laidL ((World.laidAll Tryz.prog os laidL).forCall (fun _ _ => 0) ⟨#[], args, []⟩).memory := by
  rw [MakeChecks.laidMetH_plain _ _ _ laid_plain]
  exact laidMet_laidAll _ (wit_fits os) (wit_ifaces os)
end Go.Proofs.YteockodnfempfaaGreatDoor
