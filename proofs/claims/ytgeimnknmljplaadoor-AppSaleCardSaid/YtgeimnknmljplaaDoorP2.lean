/- What the frames of this seat's laws share: the listed variables, the world of the witness, the wrap that hands the world's shape on. Conditions: those named in each theorem. -/
import Derived.Test.YtgeimnknmljplaaDoorP1
import Derived.Shelf.Strings.SplitShaped
import Derived.Shelf.Strconv.Itoa4
import Derived.Test.YtgeimnknmljplaaDoorProg
import Derived.Test.YtgeimnknmljplaaDoorTie
import Derived.Handed
import Derived.Lay
import Derived.LaidMore
import Derived.Stop.Joined
import Derived.Stop.LaidErr
import Derived.Lib.LaidTab
import Derived.SevenTiedAt
/- The struct types of this seat as Lean types, with the runs of single operations over them. Conditions: those named in each theorem. -/
namespace Go.Proofs.YtgeimnknmljplaaDoor
open Go Go.RowKit Go.Gv
set_option linter.unusedSimpArgs false

theorem na4 : aggT Tryd.prog 4 = false := by kernel_rfl
theorem us4 : (Tryd.prog.underlying 4).isSome = true := by kernel_rfl
theorem uk4 : Tryd.prog.underlying 4 = some .bool := by kernel_rfl
theorem na9 : aggT Tryd.prog 9 = false := by kernel_rfl
theorem us9 : (Tryd.prog.underlying 9).isSome = true := by kernel_rfl
theorem uk9 : Tryd.prog.underlying 9 = some .string := by kernel_rfl
theorem na59 : aggT Tryd.prog 59 = false := by kernel_rfl
theorem us59 : (Tryd.prog.underlying 59).isSome = true := by kernel_rfl
theorem na66 : aggT Tryd.prog 66 = false := by kernel_rfl
theorem us66 : (Tryd.prog.underlying 66).isSome = true := by kernel_rfl

/-! ### gavel/auction.Result -/
structure GAuctionResult where
  name : ByteArray
  winner : Int
  price : Int
deriving DecidableEq
instance : Inhabited GAuctionResult := ⟨⟨ByteArray.empty, 0, 0⟩⟩
def GAuctionResult.enc (x : GAuctionResult) : List Value := [(.string x.name)] ++ ([(.int .i64 x.winner)] ++ ([(.int .i64 x.price)]))
theorem GAuctionResult.enc_len (x : GAuctionResult) : x.enc.length = 3 := by simp [GAuctionResult.enc]
theorem GAuctionResult.enc_one (x : GAuctionResult) : ∀ u ∈ x.enc, u.oneCell' = true := by
  intro u hu
  simp only [GAuctionResult.enc, List.mem_append, List.mem_singleton] at hu
  rcases hu with hu | hu | hu
  · subst hu; rfl
  · subst hu; rfl
  · subst hu; rfl
theorem GAuctionResult.enc_inj (x y : GAuctionResult) (h : x.enc = y.enc) : x = y := by
  obtain ⟨a0, a1, a2⟩ := x
  obtain ⟨b0, b1, b2⟩ := y
  simp only [GAuctionResult.enc] at h
  obtain ⟨p0, q0⟩ := List.append_inj h (rfl)
  have e0 : a0 = b0 := by have := List.head_eq_of_cons_eq p0; injection this
  obtain ⟨p1, q1⟩ := List.append_inj q0 (rfl)
  have e1 : a1 = b1 := by have := List.head_eq_of_cons_eq p1; injection this
  have e2 : a2 = b2 := by have := List.head_eq_of_cons_eq q1; injection this
  rw [e0, e1, e2]
instance : Enc GAuctionResult where
  n := 3
  enc := GAuctionResult.enc
  pos := by omega
  len := GAuctionResult.enc_len
  one := GAuctionResult.enc_one
  inj := GAuctionResult.enc_inj
@[go_sem] theorem GAuctionResult.n_eq : Enc.n GAuctionResult = 3 := rfl
@[irreducible] def GAuctionResult.val (x : GAuctionResult) : Value := .agg x.enc.toArray
theorem GAuctionResult.val_eq (x : GAuctionResult) : GAuctionResult.val x = .agg (Enc.enc x).toArray := by unfold GAuctionResult.val; rfl
theorem GAuctionResult.ext_all (x y : GAuctionResult) : x = y ↔ x.name = y.name ∧ x.winner = y.winner ∧ x.price = y.price := by
  constructor
  · intro h; cases h; simp
  · intro h; cases x; cases y; simp_all
theorem uu68 : Tryd.prog.underlying 68 = some (.struct (Tryd.prog.fieldsOf 68)) := by kernel_rfl
theorem st68 : Tryd.prog.stoodInHeld 68 = false := by kernel_rfl
theorem fl68 : fieldTO Tryd.prog 68 = [(9, 0), (3, 1), (3, 2)] := by kernel_rfl
theorem nb68 : noBlank Tryd.prog 68 = true := by kernel_rfl
@[go_sem ↓ high] theorem xl_GAuctionResult (ρ : Operand → Value) (dst : Option Tmp) (x : Operand) (ty : TypeId) (pos : String) (after : Array Edge) (guard : Option (Nat × Bool)) : execOp ρ { dst, op := .load 68 x, type := ty, pos, after, guard } = (do pure (.value (← gLoad 68 (ρ x)))) := ex_load ..
@[go_sem ↓ high] theorem xs_GAuctionResult (ρ : Operand → Value) (dst : Option Tmp) (x y : Operand) (ty : TypeId) (pos : String) (after : Array Edge) (guard : Option (Nat × Bool)) : execOp ρ { dst, op := .store 68 x y, type := ty, pos, after, guard } = (do gStore 68 (ρ x) (ρ y); pure .skip) := ex_store ..
@[go_sem ↓ high] theorem xb_GAuctionResult (ρ : Operand → Value) (dst : Option Tmp) (x : Operand) (ty : TypeId) (pos : String) (after : Array Edge) (guard : Option (Nat × Bool)) : execOp ρ { dst, op := .box 68 x, type := ty, pos, after, guard } = (do pure (.value (← gBox 68 (ρ x)))) := ex_box ..
@[go_sem ↓ high] theorem xa_GAuctionResult (ρ : Operand → Value) (dst : Option Tmp) (ty : TypeId) (pos : String) (after : Array Edge) (guard : Option (Nat × Bool)) : execOp ρ { dst, op := .alloc 68, type := ty, pos, after, guard } = (do pure (.value (← gAlloc 68))) := ex_alloc ..
theorem ag68 : aggT Tryd.prog 68 = true := by kernel_rfl
theorem sz68 : sizeT Tryd.prog 68 = 3 := by kernel_rfl
section
variable (w : World)
@[go_sem ↓ high] theorem ld_GAuctionResult (a : Addr) : (gLoad 68 (.pointer (some a))).run Tryd.prog w = ofOpt ((get? GAuctionResult w a).map GAuctionResult.val) w (noLoad Tryd.prog 68 a w) := by
  unfold gLoad; exact run_loadAt_opt ag68 sz68 GAuctionResult.val GAuctionResult.val_eq
@[go_sem ↓ high] theorem st_GAuctionResult (a : Addr) (x : GAuctionResult) : (gStore 68 (.pointer (some a)) (GAuctionResult.val x)).run Tryd.prog w = okU' ((get? GAuctionResult w a).isSome && blkFree w a.block) (World.putCells w a (GAuctionResult.enc x)) (noStore Tryd.prog 68 (.pointer (some a)) (GAuctionResult.val x) w) := run_gStore_any sz68 GAuctionResult.val GAuctionResult.val_eq w a x
@[go_sem ↓ high] theorem bx_GAuctionResult (x : GAuctionResult) : (gBox 68 (GAuctionResult.val x)).run Tryd.prog w = .ok (.pointer (some ⟨w.heap.size, 0, none⟩)) (w.alloc (.cells (GAuctionResult.enc x).toArray 68)) := by
  rw [GAuctionResult.val_eq]; exact run_gBox _ w
end
theorem lk68_0 (x : GAuctionResult) : x.enc[0]? = some (.string x.name) := by
  simp [GAuctionResult.enc, List.getElem?_append]
theorem pt68_0 (w : World) (x : GAuctionResult) : (part 9 x.enc.toArray 0).run Tryd.prog w = .ok (.string x.name) w := run_part_one na9 us9 (lk68_0 x)
@[go_sem ↓ high] theorem fd68_0 (w : World) (x : GAuctionResult) : (gField 68 (GAuctionResult.val x) 0).run Tryd.prog w = .ok (.string x.name) w := by
  rw [GAuctionResult.val_eq]
  exact run_gField w uu68 (by rw [fl68]; rfl) (pt68_0 w x)
theorem lk68_1 (x : GAuctionResult) : x.enc[1]? = some (.int .i64 x.winner) := by
  simp [GAuctionResult.enc, List.getElem?_append]
theorem pt68_1 (w : World) (x : GAuctionResult) : (part 3 x.enc.toArray 1).run Tryd.prog w = .ok (.int .i64 x.winner) w := run_part_one na3 us3 (lk68_1 x)
@[go_sem ↓ high] theorem fd68_1 (w : World) (x : GAuctionResult) : (gField 68 (GAuctionResult.val x) 1).run Tryd.prog w = .ok (.int .i64 x.winner) w := by
  rw [GAuctionResult.val_eq]
  exact run_gField w uu68 (by rw [fl68]; rfl) (pt68_1 w x)
theorem lk68_2 (x : GAuctionResult) : x.enc[2]? = some (.int .i64 x.price) := by
  simp [GAuctionResult.enc, List.getElem?_append]
theorem pt68_2 (w : World) (x : GAuctionResult) : (part 3 x.enc.toArray 2).run Tryd.prog w = .ok (.int .i64 x.price) w := run_part_one na3 us3 (lk68_2 x)
@[go_sem ↓ high] theorem fd68_2 (w : World) (x : GAuctionResult) : (gField 68 (GAuctionResult.val x) 2).run Tryd.prog w = .ok (.int .i64 x.price) w := by
  rw [GAuctionResult.val_eq]
  exact run_gField w uu68 (by rw [fl68]; rfl) (pt68_2 w x)
@[go_sem ↓ high] theorem xf_GAuctionResult (ρ : Operand → Value) (dst : Option Tmp) (x : Operand) (i : Nat) (ty : TypeId) (pos : String) (after : Array Edge) (guard : Option (Nat × Bool)) : execOp ρ { dst, op := .field 68 x i, type := ty, pos, after, guard } = (do pure (.value (← gField 68 (ρ x) i))) := ex_field ..
theorem zr68 : zeroT Tryd.prog 68 = some (.agg (GAuctionResult.enc default).toArray) := by kernel_rfl
@[go_sem ↓ high] theorem al_GAuctionResult (w : World) : (gAlloc 68).run Tryd.prog w = .ok (.pointer (some ⟨w.heap.size, 0, none⟩)) (w.alloc (.cells (GAuctionResult.enc default).toArray 68)) := run_zero_alloc zr68 w
@[go_sem] theorem pc_GAuctionResult (w : World) (n : Nat) (x z : GAuctionResult) (hn : n = w.heap.size) : World.putCells (w.alloc (.cells (GAuctionResult.enc z).toArray 68)) ⟨n, 0, none⟩ (GAuctionResult.enc x) = w.alloc (.cells (GAuctionResult.enc x).toArray 68) := putCells_top x z hn
theorem GAuctionResult.at_name {w : World} {a : Addr} {x : GAuctionResult} (h : get? GAuctionResult w a = some x) : w.cell? (a.add 0) = some (.string x.name) := (get?_iff.1 h) _ _ (lk68_0 x)
theorem GAuctionResult.at_winner {w : World} {a : Addr} {x : GAuctionResult} (h : get? GAuctionResult w a = some x) : w.cell? (a.add 1) = some (.int .i64 x.winner) := (get?_iff.1 h) _ _ (lk68_1 x)
theorem GAuctionResult.at_price {w : World} {a : Addr} {x : GAuctionResult} (h : get? GAuctionResult w a = some x) : w.cell? (a.add 2) = some (.int .i64 x.price) := (get?_iff.1 h) _ _ (lk68_2 x)
@[go_sem] theorem nl68_0 (x : GAuctionResult) : x.enc[0]? = some (.string x.name) := by
  have h := (GAuctionResult.at_name (get?_new (w := (default : World)) 68 x))
  simp only [Addr.add_lit, Nat.zero_add, Nat.reduceAdd, World.cell?_alloc_new, List.getElem?_toArray] at h
  exact h
@[go_sem] theorem nl68_1 (x : GAuctionResult) : x.enc[1]? = some (.int .i64 x.winner) := by
  have h := (GAuctionResult.at_winner (get?_new (w := (default : World)) 68 x))
  simp only [Addr.add_lit, Nat.zero_add, Nat.reduceAdd, World.cell?_alloc_new, List.getElem?_toArray] at h
  exact h
@[go_sem] theorem nl68_2 (x : GAuctionResult) : x.enc[2]? = some (.int .i64 x.price) := by
  have h := (GAuctionResult.at_price (get?_new (w := (default : World)) 68 x))
  simp only [Addr.add_lit, Nat.zero_add, Nat.reduceAdd, World.cell?_alloc_new, List.getElem?_toArray] at h
  exact h
@[go_sem] theorem nw68 (w : World) (n : Nat) (x : GAuctionResult) (hn : n = w.heap.size) : get? GAuctionResult (w.alloc (.cells (GAuctionResult.enc x).toArray 68)) ⟨n, 0, none⟩ = some x := by
  subst hn; exact get?_new 68 x
theorem pl68 : ((Tryd.prog.fieldsOf 68).toList.mapM fun f => (Tryd.prog.info? f.type).map fun i => (f.offset, i.size)) = some [(0, 1), (1, 1), (2, 1)] := by kernel_rfl
theorem fs68_0 (x : GAuctionResult) (v : ByteArray) (rest : List (Nat × Value)) : Instr.fill (fun i => ([(0, 1), (1, 1), (2, 1)] : List (Nat × Nat))[i]?) x.enc.toArray ((0, (.string v)) :: rest) = Instr.fill (fun i => ([(0, 1), (1, 1), (2, 1)] : List (Nat × Nat))[i]?) ({ x with name := v } : GAuctionResult).enc.toArray rest := by
  have h := fill_seg [(0, 1), (1, 1), (2, 1)] 0 0 1 rfl (([] : List Value)) ([(.string x.name)]) ([(.int .i64 x.winner)] ++ ([(.int .i64 x.price)] ++ (([] : List Value)))) ([(.string v)]) (.string v) rest (rfl) (by simp) (by simp) (by simp)
  have e1 : x.enc = (([] : List Value)) ++ ([(.string x.name)] ++ ([(.int .i64 x.winner)] ++ ([(.int .i64 x.price)] ++ (([] : List Value))))) := by simp [GAuctionResult.enc]
  have e2 : ({ x with name := v } : GAuctionResult).enc = (([] : List Value)) ++ ([(.string v)] ++ ([(.int .i64 x.winner)] ++ ([(.int .i64 x.price)] ++ (([] : List Value))))) := by simp [GAuctionResult.enc]
  rw [e1, e2]; exact h
theorem fs68_1 (x : GAuctionResult) (v : Int) (rest : List (Nat × Value)) : Instr.fill (fun i => ([(0, 1), (1, 1), (2, 1)] : List (Nat × Nat))[i]?) x.enc.toArray ((1, (.int .i64 v)) :: rest) = Instr.fill (fun i => ([(0, 1), (1, 1), (2, 1)] : List (Nat × Nat))[i]?) ({ x with winner := v } : GAuctionResult).enc.toArray rest := by
  have h := fill_seg [(0, 1), (1, 1), (2, 1)] 1 1 1 rfl (([] : List Value) ++ ([(.string x.name)])) ([(.int .i64 x.winner)]) ([(.int .i64 x.price)] ++ (([] : List Value))) ([(.int .i64 v)]) (.int .i64 v) rest (rfl) (by simp) (by simp) (by simp)
  have e1 : x.enc = (([] : List Value) ++ ([(.string x.name)])) ++ ([(.int .i64 x.winner)] ++ ([(.int .i64 x.price)] ++ (([] : List Value)))) := by simp [GAuctionResult.enc]
  have e2 : ({ x with winner := v } : GAuctionResult).enc = (([] : List Value) ++ ([(.string x.name)])) ++ ([(.int .i64 v)] ++ ([(.int .i64 x.price)] ++ (([] : List Value)))) := by simp [GAuctionResult.enc]
  rw [e1, e2]; exact h
theorem fs68_2 (x : GAuctionResult) (v : Int) (rest : List (Nat × Value)) : Instr.fill (fun i => ([(0, 1), (1, 1), (2, 1)] : List (Nat × Nat))[i]?) x.enc.toArray ((2, (.int .i64 v)) :: rest) = Instr.fill (fun i => ([(0, 1), (1, 1), (2, 1)] : List (Nat × Nat))[i]?) ({ x with price := v } : GAuctionResult).enc.toArray rest := by
  have h := fill_seg [(0, 1), (1, 1), (2, 1)] 2 2 1 rfl (([] : List Value) ++ ([(.string x.name)] ++ ([(.int .i64 x.winner)]))) ([(.int .i64 x.price)]) (([] : List Value)) ([(.int .i64 v)]) (.int .i64 v) rest (rfl) (by simp) (by simp) (by simp)
  have e1 : x.enc = (([] : List Value) ++ ([(.string x.name)] ++ ([(.int .i64 x.winner)]))) ++ ([(.int .i64 x.price)] ++ (([] : List Value))) := by simp [GAuctionResult.enc]
  have e2 : ({ x with price := v } : GAuctionResult).enc = (([] : List Value) ++ ([(.string x.name)] ++ ([(.int .i64 x.winner)]))) ++ ([(.int .i64 v)] ++ (([] : List Value))) := by simp [GAuctionResult.enc]
  rw [e1, e2]; exact h
@[go_sem ↓ high] theorem xd_GAuctionResult (ρ : Operand → Value) (dst : Option Tmp) (ps : Array (Nat × Operand)) (ty : TypeId) (pos : String) (after : Array Edge) (guard : Option (Nat × Bool)) : execOp ρ { dst, op := .build 68 ps, type := ty, pos, after, guard } = (do pure (.value (← gBuild 68 (ps.map fun (i, x) => (i, ρ x))))) := ex_build ..
@[go_sem ↓ high] theorem bd68_0 (w : World) (v0 : ByteArray) (v1 : Int) : (gBuild 68 #[(0, (.string v0)), (1, (.int .i64 v1))]).run Tryd.prog w = .ok (GAuctionResult.val ⟨v0, v1, 0⟩) w := by
  rw [GAuctionResult.val_eq]
  refine run_gBuild_of uu68 zr68 pl68 ?_ w
  show Instr.fill _ (GAuctionResult.enc default).toArray [(0, (.string v0)), (1, (.int .i64 v1))] = _
  rw [fs68_0, fs68_1]; rfl
@[go_sem ↓ high] theorem bd68_1 (w : World) (v0 : ByteArray) (v1 : Int) (v2 : Int) : (gBuild 68 #[(0, (.string v0)), (1, (.int .i64 v1)), (2, (.int .i64 v2))]).run Tryd.prog w = .ok (GAuctionResult.val ⟨v0, v1, v2⟩) w := by
  rw [GAuctionResult.val_eq]
  refine run_gBuild_of uu68 zr68 pl68 ?_ w
  show Instr.fill _ (GAuctionResult.enc default).toArray [(0, (.string v0)), (1, (.int .i64 v1)), (2, (.int .i64 v2))] = _
  rw [fs68_0, fs68_1, fs68_2]; rfl
theorem eq_GAuctionResult (w : World) (d : Nat) (x y : GAuctionResult) : (Op.equalIn (d + 2) 68 (GAuctionResult.val x) (GAuctionResult.val y)).run Tryd.prog w = .ok (decide (x = y)) w := by
  have q0 : ∀ a b, (Op.equalIn (d + 1) 9 (.string a) (.string b)).run Tryd.prog w = .ok (decide (a = b)) w := fun a b => by rw [run_equalIn_string w (d + 0) 9 a b uk9, bytes_beq]
  have q1 : ∀ a b, (Op.equalIn (d + 1) 3 (.int .i64 a) (.int .i64 b)).run Tryd.prog w = .ok (decide (a = b)) w := fun a b => by rw [run_equalIn_int w (d + 0) 3 .i64 .i64 a b uk3]; congr 1
  have q2 : ∀ a b, (Op.equalIn (d + 1) 3 (.int .i64 a) (.int .i64 b)).run Tryd.prog w = .ok (decide (a = b)) w := fun a b => by rw [run_equalIn_int w (d + 0) 3 .i64 .i64 a b uk3]; congr 1
  have h := run_equalIn_fields (d + 1) x.enc.toArray y.enc.toArray w uu68 st68 nb68
  rw [fl68] at h
  unfold GAuctionResult.val
  refine h.trans ?_
  clear h
  simp only [eqFs, Sem.run_bind, pt68_0, pt68_1, pt68_2, q0, q1, q2, Result.andThen_ok, Sem.run_ite, Sem.run_pure]
  have he : decide (x = y) = (decide (x.name = y.name) && (decide (x.winner = y.winner) && (decide (x.price = y.price)))) := by
    rw [Bool.eq_iff_iff]; simp only [Bool.and_eq_true, decide_eq_true_eq]; exact GAuctionResult.ext_all x y
  rw [he]
  generalize decide (x.name = y.name) = c0; generalize decide (x.winner = y.winner) = c1; generalize decide (x.price = y.price) = c2
  cases c0 <;> cases c1 <;> cases c2 <;> simp
@[go_sem ↓ high] theorem xq_GAuctionResult (ρ : Operand → Value) (dst : Option Tmp) (x y : Operand) (ty yt : TypeId) (pos : String) (after : Array Edge) (guard : Option (Nat × Bool)) : execOp ρ { dst, op := .binOp .eql 68 x y yt, type := ty, pos, after, guard } = (do pure (.value (← gBin .eql 68 x y (ρ x) (ρ y)))) := ex_eql ..
@[go_sem ↓ high] theorem xn_GAuctionResult (ρ : Operand → Value) (dst : Option Tmp) (x y : Operand) (ty yt : TypeId) (pos : String) (after : Array Edge) (guard : Option (Nat × Bool)) : execOp ρ { dst, op := .binOp .neq 68 x y yt, type := ty, pos, after, guard } = (do pure (.value (← gBin .neq 68 x y (ρ x) (ρ y)))) := ex_neq ..
theorem eg_GAuctionResult : Tryd.prog.eqGuardType Tryd.prog.depth 68 = false := by kernel_rfl
@[go_sem ↓ high] theorem eql_GAuctionResult (w : World) (ox oy : Operand) (x y : GAuctionResult) : (gBin .eql 68 ox oy (GAuctionResult.val x) (GAuctionResult.val y)).run Tryd.prog w = .ok (.bool (decide (x = y))) w := by
  have h2 := eq_GAuctionResult w 9998 x y
  rw [GAuctionResult.val_eq, GAuctionResult.val_eq] at h2 ⊢
  have h := run_eqGuard_agg (P := Tryd.prog) w .eql 68 ox oy (Enc.enc x).toArray (Enc.enc y).toArray eg_GAuctionResult
  unfold gBin
  simp only [Sem.run_bind, h, Result.andThen_ok, run_eql_struct, h2]
@[go_sem ↓ high] theorem neq_GAuctionResult (w : World) (ox oy : Operand) (x y : GAuctionResult) : (gBin .neq 68 ox oy (GAuctionResult.val x) (GAuctionResult.val y)).run Tryd.prog w = .ok (.bool (!decide (x = y))) w := by
  have h2 := eq_GAuctionResult w 9998 x y
  rw [GAuctionResult.val_eq, GAuctionResult.val_eq] at h2 ⊢
  have h := run_eqGuard_agg (P := Tryd.prog) w .neq 68 ox oy (Enc.enc x).toArray (Enc.enc y).toArray eg_GAuctionResult
  unfold gBin
  simp only [Sem.run_bind, h, Result.andThen_ok, run_neq_struct, h2]

/-! ### gavel/auction.sale -/
structure GAuctionSale where
  name : ByteArray
  vickrey : Bool
  reserve : Int
  close : Int
  bids : Hdr
  settled : Bool
  result : GAuctionResult
deriving DecidableEq
instance : Inhabited GAuctionSale := ⟨⟨ByteArray.empty, false, 0, 0, default, false, default⟩⟩
def GAuctionSale.enc (x : GAuctionSale) : List Value := [(.string x.name)] ++ ([(.bool x.vickrey)] ++ ([(.int .i64 x.reserve)] ++ ([(.int .u64 x.close)] ++ ([(x.bids.val)] ++ ([(.bool x.settled)] ++ (x.result.enc))))))
theorem GAuctionSale.enc_len (x : GAuctionSale) : x.enc.length = 9 := by simp [GAuctionSale.enc, GAuctionResult.enc_len]
theorem GAuctionSale.enc_one (x : GAuctionSale) : ∀ u ∈ x.enc, u.oneCell' = true := by
  intro u hu
  simp only [GAuctionSale.enc, List.mem_append, List.mem_singleton] at hu
  rcases hu with hu | hu | hu | hu | hu | hu | hu
  · subst hu; rfl
  · subst hu; rfl
  · subst hu; rfl
  · subst hu; rfl
  · subst hu; rfl
  · subst hu; rfl
  · exact Enc.one (α := GAuctionResult) _ _ hu
theorem GAuctionSale.enc_inj (x y : GAuctionSale) (h : x.enc = y.enc) : x = y := by
  obtain ⟨a0, a1, a2, a3, a4, a5, a6⟩ := x
  obtain ⟨b0, b1, b2, b3, b4, b5, b6⟩ := y
  simp only [GAuctionSale.enc] at h
  obtain ⟨p0, q0⟩ := List.append_inj h (rfl)
  have e0 : a0 = b0 := by have := List.head_eq_of_cons_eq p0; injection this
  obtain ⟨p1, q1⟩ := List.append_inj q0 (rfl)
  have e1 : a1 = b1 := by have := List.head_eq_of_cons_eq p1; injection this
  obtain ⟨p2, q2⟩ := List.append_inj q1 (rfl)
  have e2 : a2 = b2 := by have := List.head_eq_of_cons_eq p2; injection this
  obtain ⟨p3, q3⟩ := List.append_inj q2 (rfl)
  have e3 : a3 = b3 := by have := List.head_eq_of_cons_eq p3; injection this
  obtain ⟨p4, q4⟩ := List.append_inj q3 (rfl)
  have e4 : a4 = b4 := Enc.inj (α := Hdr) _ _ p4
  obtain ⟨p5, q5⟩ := List.append_inj q4 (rfl)
  have e5 : a5 = b5 := by have := List.head_eq_of_cons_eq p5; injection this
  have e6 := Enc.inj (α := GAuctionResult) _ _ q5
  rw [e0, e1, e2, e3, e4, e5, e6]
instance : Enc GAuctionSale where
  n := 9
  enc := GAuctionSale.enc
  pos := by omega
  len := GAuctionSale.enc_len
  one := GAuctionSale.enc_one
  inj := GAuctionSale.enc_inj
@[go_sem] theorem GAuctionSale.n_eq : Enc.n GAuctionSale = 9 := rfl
@[irreducible] def GAuctionSale.val (x : GAuctionSale) : Value := .agg x.enc.toArray
theorem GAuctionSale.val_eq (x : GAuctionSale) : GAuctionSale.val x = .agg (Enc.enc x).toArray := by unfold GAuctionSale.val; rfl
theorem GAuctionSale.ext_all (x y : GAuctionSale) : x = y ↔ x.name = y.name ∧ x.vickrey = y.vickrey ∧ x.reserve = y.reserve ∧ x.close = y.close ∧ x.bids = y.bids ∧ x.settled = y.settled ∧ x.result = y.result := by
  constructor
  · intro h; cases h; simp
  · intro h; cases x; cases y; simp_all
theorem uu70 : Tryd.prog.underlying 70 = some (.struct (Tryd.prog.fieldsOf 70)) := by kernel_rfl
theorem st70 : Tryd.prog.stoodInHeld 70 = false := by kernel_rfl
theorem fl70 : fieldTO Tryd.prog 70 = [(9, 0), (4, 1), (3, 2), (26, 3), (66, 4), (4, 5), (68, 6)] := by kernel_rfl
theorem nb70 : noBlank Tryd.prog 70 = true := by kernel_rfl
@[go_sem ↓ high] theorem xl_GAuctionSale (ρ : Operand → Value) (dst : Option Tmp) (x : Operand) (ty : TypeId) (pos : String) (after : Array Edge) (guard : Option (Nat × Bool)) : execOp ρ { dst, op := .load 70 x, type := ty, pos, after, guard } = (do pure (.value (← gLoad 70 (ρ x)))) := ex_load ..
@[go_sem ↓ high] theorem xs_GAuctionSale (ρ : Operand → Value) (dst : Option Tmp) (x y : Operand) (ty : TypeId) (pos : String) (after : Array Edge) (guard : Option (Nat × Bool)) : execOp ρ { dst, op := .store 70 x y, type := ty, pos, after, guard } = (do gStore 70 (ρ x) (ρ y); pure .skip) := ex_store ..
@[go_sem ↓ high] theorem xb_GAuctionSale (ρ : Operand → Value) (dst : Option Tmp) (x : Operand) (ty : TypeId) (pos : String) (after : Array Edge) (guard : Option (Nat × Bool)) : execOp ρ { dst, op := .box 70 x, type := ty, pos, after, guard } = (do pure (.value (← gBox 70 (ρ x)))) := ex_box ..
@[go_sem ↓ high] theorem xa_GAuctionSale (ρ : Operand → Value) (dst : Option Tmp) (ty : TypeId) (pos : String) (after : Array Edge) (guard : Option (Nat × Bool)) : execOp ρ { dst, op := .alloc 70, type := ty, pos, after, guard } = (do pure (.value (← gAlloc 70))) := ex_alloc ..
theorem ag70 : aggT Tryd.prog 70 = true := by kernel_rfl
theorem sz70 : sizeT Tryd.prog 70 = 9 := by kernel_rfl
section
variable (w : World)
@[go_sem ↓ high] theorem ld_GAuctionSale (a : Addr) : (gLoad 70 (.pointer (some a))).run Tryd.prog w = ofOpt ((get? GAuctionSale w a).map GAuctionSale.val) w (noLoad Tryd.prog 70 a w) := by
  unfold gLoad; exact run_loadAt_opt ag70 sz70 GAuctionSale.val GAuctionSale.val_eq
@[go_sem ↓ high] theorem st_GAuctionSale (a : Addr) (x : GAuctionSale) : (gStore 70 (.pointer (some a)) (GAuctionSale.val x)).run Tryd.prog w = okU' ((get? GAuctionSale w a).isSome && blkFree w a.block) (World.putCells w a (GAuctionSale.enc x)) (noStore Tryd.prog 70 (.pointer (some a)) (GAuctionSale.val x) w) := run_gStore_any sz70 GAuctionSale.val GAuctionSale.val_eq w a x
@[go_sem ↓ high] theorem bx_GAuctionSale (x : GAuctionSale) : (gBox 70 (GAuctionSale.val x)).run Tryd.prog w = .ok (.pointer (some ⟨w.heap.size, 0, none⟩)) (w.alloc (.cells (GAuctionSale.enc x).toArray 70)) := by
  rw [GAuctionSale.val_eq]; exact run_gBox _ w
end
theorem lk70_0 (x : GAuctionSale) : x.enc[0]? = some (.string x.name) := by
  simp [GAuctionSale.enc, List.getElem?_append]
theorem pt70_0 (w : World) (x : GAuctionSale) : (part 9 x.enc.toArray 0).run Tryd.prog w = .ok (.string x.name) w := run_part_one na9 us9 (lk70_0 x)
@[go_sem ↓ high] theorem fd70_0 (w : World) (x : GAuctionSale) : (gField 70 (GAuctionSale.val x) 0).run Tryd.prog w = .ok (.string x.name) w := by
  rw [GAuctionSale.val_eq]
  exact run_gField w uu70 (by rw [fl70]; rfl) (pt70_0 w x)
theorem lk70_1 (x : GAuctionSale) : x.enc[1]? = some (.bool x.vickrey) := by
  simp [GAuctionSale.enc, List.getElem?_append]
theorem pt70_1 (w : World) (x : GAuctionSale) : (part 4 x.enc.toArray 1).run Tryd.prog w = .ok (.bool x.vickrey) w := run_part_one na4 us4 (lk70_1 x)
@[go_sem ↓ high] theorem fd70_1 (w : World) (x : GAuctionSale) : (gField 70 (GAuctionSale.val x) 1).run Tryd.prog w = .ok (.bool x.vickrey) w := by
  rw [GAuctionSale.val_eq]
  exact run_gField w uu70 (by rw [fl70]; rfl) (pt70_1 w x)
theorem lk70_2 (x : GAuctionSale) : x.enc[2]? = some (.int .i64 x.reserve) := by
  simp [GAuctionSale.enc, List.getElem?_append]
theorem pt70_2 (w : World) (x : GAuctionSale) : (part 3 x.enc.toArray 2).run Tryd.prog w = .ok (.int .i64 x.reserve) w := run_part_one na3 us3 (lk70_2 x)
@[go_sem ↓ high] theorem fd70_2 (w : World) (x : GAuctionSale) : (gField 70 (GAuctionSale.val x) 2).run Tryd.prog w = .ok (.int .i64 x.reserve) w := by
  rw [GAuctionSale.val_eq]
  exact run_gField w uu70 (by rw [fl70]; rfl) (pt70_2 w x)
theorem lk70_3 (x : GAuctionSale) : x.enc[3]? = some (.int .u64 x.close) := by
  simp [GAuctionSale.enc, List.getElem?_append]
theorem pt70_3 (w : World) (x : GAuctionSale) : (part 26 x.enc.toArray 3).run Tryd.prog w = .ok (.int .u64 x.close) w := run_part_one na26 us26 (lk70_3 x)
@[go_sem ↓ high] theorem fd70_3 (w : World) (x : GAuctionSale) : (gField 70 (GAuctionSale.val x) 3).run Tryd.prog w = .ok (.int .u64 x.close) w := by
  rw [GAuctionSale.val_eq]
  exact run_gField w uu70 (by rw [fl70]; rfl) (pt70_3 w x)
theorem lk70_4 (x : GAuctionSale) : x.enc[4]? = some (x.bids.val) := by
  simp [GAuctionSale.enc, List.getElem?_append]
theorem pt70_4 (w : World) (x : GAuctionSale) : (part 66 x.enc.toArray 4).run Tryd.prog w = .ok (x.bids.val) w := run_part_one na66 us66 (lk70_4 x)
@[go_sem ↓ high] theorem fd70_4 (w : World) (x : GAuctionSale) : (gField 70 (GAuctionSale.val x) 4).run Tryd.prog w = .ok (x.bids.val) w := by
  rw [GAuctionSale.val_eq]
  exact run_gField w uu70 (by rw [fl70]; rfl) (pt70_4 w x)
theorem lk70_5 (x : GAuctionSale) : x.enc[5]? = some (.bool x.settled) := by
  simp [GAuctionSale.enc, List.getElem?_append]
theorem pt70_5 (w : World) (x : GAuctionSale) : (part 4 x.enc.toArray 5).run Tryd.prog w = .ok (.bool x.settled) w := run_part_one na4 us4 (lk70_5 x)
@[go_sem ↓ high] theorem fd70_5 (w : World) (x : GAuctionSale) : (gField 70 (GAuctionSale.val x) 5).run Tryd.prog w = .ok (.bool x.settled) w := by
  rw [GAuctionSale.val_eq]
  exact run_gField w uu70 (by rw [fl70]; rfl) (pt70_5 w x)
theorem ds70_6 (x : GAuctionSale) : (x.enc.drop 6).take 3 = x.result.enc := by
  unfold GAuctionSale.enc
  simp [List.drop_append, List.drop_eq_nil_of_le]
  exact List.take_of_length_le (by simp [GAuctionResult.enc_len])
theorem pt70_6 (w : World) (x : GAuctionSale) : (part 68 x.enc.toArray 6).run Tryd.prog w = .ok (x.result.val) w := by
  have h := run_part_agg (P := Tryd.prog) (w := w) (cs := x.enc) (ds := x.result.enc) (off := 6) ag68 (by rw [GAuctionResult.enc_len]; exact sz68) (by simp [GAuctionResult.enc_len]) (by rw [GAuctionResult.enc_len]; exact ds70_6 x)
  rw [h, GAuctionResult.val_eq]; rfl
@[go_sem ↓ high] theorem fd70_6 (w : World) (x : GAuctionSale) : (gField 70 (GAuctionSale.val x) 6).run Tryd.prog w = .ok (x.result.val) w := by
  rw [GAuctionSale.val_eq]
  exact run_gField w uu70 (by rw [fl70]; rfl) (pt70_6 w x)
@[go_sem ↓ high] theorem xf_GAuctionSale (ρ : Operand → Value) (dst : Option Tmp) (x : Operand) (i : Nat) (ty : TypeId) (pos : String) (after : Array Edge) (guard : Option (Nat × Bool)) : execOp ρ { dst, op := .field 70 x i, type := ty, pos, after, guard } = (do pure (.value (← gField 70 (ρ x) i))) := ex_field ..
theorem zr70 : zeroT Tryd.prog 70 = some (.agg (GAuctionSale.enc default).toArray) := by kernel_rfl
@[go_sem ↓ high] theorem al_GAuctionSale (w : World) : (gAlloc 70).run Tryd.prog w = .ok (.pointer (some ⟨w.heap.size, 0, none⟩)) (w.alloc (.cells (GAuctionSale.enc default).toArray 70)) := run_zero_alloc zr70 w
@[go_sem] theorem pc_GAuctionSale (w : World) (n : Nat) (x z : GAuctionSale) (hn : n = w.heap.size) : World.putCells (w.alloc (.cells (GAuctionSale.enc z).toArray 70)) ⟨n, 0, none⟩ (GAuctionSale.enc x) = w.alloc (.cells (GAuctionSale.enc x).toArray 70) := putCells_top x z hn
theorem GAuctionSale.at_name {w : World} {a : Addr} {x : GAuctionSale} (h : get? GAuctionSale w a = some x) : w.cell? (a.add 0) = some (.string x.name) := (get?_iff.1 h) _ _ (lk70_0 x)
theorem GAuctionSale.at_vickrey {w : World} {a : Addr} {x : GAuctionSale} (h : get? GAuctionSale w a = some x) : w.cell? (a.add 1) = some (.bool x.vickrey) := (get?_iff.1 h) _ _ (lk70_1 x)
theorem GAuctionSale.at_reserve {w : World} {a : Addr} {x : GAuctionSale} (h : get? GAuctionSale w a = some x) : w.cell? (a.add 2) = some (.int .i64 x.reserve) := (get?_iff.1 h) _ _ (lk70_2 x)
theorem GAuctionSale.at_close {w : World} {a : Addr} {x : GAuctionSale} (h : get? GAuctionSale w a = some x) : w.cell? (a.add 3) = some (.int .u64 x.close) := (get?_iff.1 h) _ _ (lk70_3 x)
theorem GAuctionSale.at_bids {w : World} {a : Addr} {x : GAuctionSale} (h : get? GAuctionSale w a = some x) : w.cell? (a.add 4) = some (x.bids.val) := (get?_iff.1 h) _ _ (lk70_4 x)
theorem GAuctionSale.at_settled {w : World} {a : Addr} {x : GAuctionSale} (h : get? GAuctionSale w a = some x) : w.cell? (a.add 5) = some (.bool x.settled) := (get?_iff.1 h) _ _ (lk70_5 x)
theorem GAuctionSale.at_result {w : World} {a : Addr} {x : GAuctionSale} (h : get? GAuctionSale w a = some x) : get? GAuctionResult w (a.add 6) = some x.result := by
  rw [get?_iff] at h ⊢
  refine h.sub 6 fun j v hv => ?_
  have hd := ds70_6 x
  have hj : j < 3 := by have := (List.getElem?_eq_some_iff.1 hv).1; rwa [Enc.len] at this
  show x.enc[6 + j]? = some v
  rw [← List.getElem?_drop, ← List.getElem?_take_of_lt hj, hd]; exact hv
@[go_sem] theorem nl70_0 (x : GAuctionSale) : x.enc[0]? = some (.string x.name) := by
  have h := (GAuctionSale.at_name (get?_new (w := (default : World)) 70 x))
  simp only [Addr.add_lit, Nat.zero_add, Nat.reduceAdd, World.cell?_alloc_new, List.getElem?_toArray] at h
  exact h
@[go_sem] theorem nl70_1 (x : GAuctionSale) : x.enc[1]? = some (.bool x.vickrey) := by
  have h := (GAuctionSale.at_vickrey (get?_new (w := (default : World)) 70 x))
  simp only [Addr.add_lit, Nat.zero_add, Nat.reduceAdd, World.cell?_alloc_new, List.getElem?_toArray] at h
  exact h
@[go_sem] theorem nl70_2 (x : GAuctionSale) : x.enc[2]? = some (.int .i64 x.reserve) := by
  have h := (GAuctionSale.at_reserve (get?_new (w := (default : World)) 70 x))
  simp only [Addr.add_lit, Nat.zero_add, Nat.reduceAdd, World.cell?_alloc_new, List.getElem?_toArray] at h
  exact h
@[go_sem] theorem nl70_3 (x : GAuctionSale) : x.enc[3]? = some (.int .u64 x.close) := by
  have h := (GAuctionSale.at_close (get?_new (w := (default : World)) 70 x))
  simp only [Addr.add_lit, Nat.zero_add, Nat.reduceAdd, World.cell?_alloc_new, List.getElem?_toArray] at h
  exact h
@[go_sem] theorem nl70_4 (x : GAuctionSale) : x.enc[4]? = some (x.bids.val) := by
  have h := (GAuctionSale.at_bids (get?_new (w := (default : World)) 70 x))
  simp only [Addr.add_lit, Nat.zero_add, Nat.reduceAdd, World.cell?_alloc_new, List.getElem?_toArray] at h
  exact h
@[go_sem] theorem nl70_5 (x : GAuctionSale) : x.enc[5]? = some (.bool x.settled) := by
  have h := (GAuctionSale.at_settled (get?_new (w := (default : World)) 70 x))
  simp only [Addr.add_lit, Nat.zero_add, Nat.reduceAdd, World.cell?_alloc_new, List.getElem?_toArray] at h
  exact h
@[go_sem] theorem nw70_6_GAuctionResult (w : World) (n : Nat) (x : GAuctionSale) (hn : n = w.heap.size) : get? GAuctionResult (w.alloc (.cells (GAuctionSale.enc x).toArray 70)) ⟨n, 6, none⟩ = some x.result := by
  subst hn
  have h := (GAuctionSale.at_result (get?_new (w := w) 70 x))
  simp only [Addr.add_lit, Nat.zero_add, Nat.reduceAdd] at h
  exact h
@[go_sem] theorem nl70_6 (x : GAuctionSale) : x.enc[6]? = some (.string x.result.name) := by
  have h := (GAuctionResult.at_name (GAuctionSale.at_result (get?_new (w := (default : World)) 70 x)))
  simp only [Addr.add_lit, Nat.zero_add, Nat.reduceAdd, World.cell?_alloc_new, List.getElem?_toArray] at h
  exact h
@[go_sem] theorem nl70_7 (x : GAuctionSale) : x.enc[7]? = some (.int .i64 x.result.winner) := by
  have h := (GAuctionResult.at_winner (GAuctionSale.at_result (get?_new (w := (default : World)) 70 x)))
  simp only [Addr.add_lit, Nat.zero_add, Nat.reduceAdd, World.cell?_alloc_new, List.getElem?_toArray] at h
  exact h
@[go_sem] theorem nl70_8 (x : GAuctionSale) : x.enc[8]? = some (.int .i64 x.result.price) := by
  have h := (GAuctionResult.at_price (GAuctionSale.at_result (get?_new (w := (default : World)) 70 x)))
  simp only [Addr.add_lit, Nat.zero_add, Nat.reduceAdd, World.cell?_alloc_new, List.getElem?_toArray] at h
  exact h
@[go_sem] theorem nw70 (w : World) (n : Nat) (x : GAuctionSale) (hn : n = w.heap.size) : get? GAuctionSale (w.alloc (.cells (GAuctionSale.enc x).toArray 70)) ⟨n, 0, none⟩ = some x := by
  subst hn; exact get?_new 70 x
theorem pl70 : ((Tryd.prog.fieldsOf 70).toList.mapM fun f => (Tryd.prog.info? f.type).map fun i => (f.offset, i.size)) = some [(0, 1), (1, 1), (2, 1), (3, 1), (4, 1), (5, 1), (6, 3)] := by kernel_rfl
theorem fs70_0 (x : GAuctionSale) (v : ByteArray) (rest : List (Nat × Value)) : Instr.fill (fun i => ([(0, 1), (1, 1), (2, 1), (3, 1), (4, 1), (5, 1), (6, 3)] : List (Nat × Nat))[i]?) x.enc.toArray ((0, (.string v)) :: rest) = Instr.fill (fun i => ([(0, 1), (1, 1), (2, 1), (3, 1), (4, 1), (5, 1), (6, 3)] : List (Nat × Nat))[i]?) ({ x with name := v } : GAuctionSale).enc.toArray rest := by
  have h := fill_seg [(0, 1), (1, 1), (2, 1), (3, 1), (4, 1), (5, 1), (6, 3)] 0 0 1 rfl (([] : List Value)) ([(.string x.name)]) ([(.bool x.vickrey)] ++ ([(.int .i64 x.reserve)] ++ ([(.int .u64 x.close)] ++ ([(x.bids.val)] ++ ([(.bool x.settled)] ++ (x.result.enc ++ (([] : List Value)))))))) ([(.string v)]) (.string v) rest (rfl) (by simp [GAuctionResult.enc_len]) (by simp [GAuctionResult.enc_len]) (by simp [GAuctionResult.enc_len])
  have e1 : x.enc = (([] : List Value)) ++ ([(.string x.name)] ++ ([(.bool x.vickrey)] ++ ([(.int .i64 x.reserve)] ++ ([(.int .u64 x.close)] ++ ([(x.bids.val)] ++ ([(.bool x.settled)] ++ (x.result.enc ++ (([] : List Value))))))))) := by simp [GAuctionSale.enc]
  have e2 : ({ x with name := v } : GAuctionSale).enc = (([] : List Value)) ++ ([(.string v)] ++ ([(.bool x.vickrey)] ++ ([(.int .i64 x.reserve)] ++ ([(.int .u64 x.close)] ++ ([(x.bids.val)] ++ ([(.bool x.settled)] ++ (x.result.enc ++ (([] : List Value))))))))) := by simp [GAuctionSale.enc]
  rw [e1, e2]; exact h
theorem fs70_1 (x : GAuctionSale) (v : Bool) (rest : List (Nat × Value)) : Instr.fill (fun i => ([(0, 1), (1, 1), (2, 1), (3, 1), (4, 1), (5, 1), (6, 3)] : List (Nat × Nat))[i]?) x.enc.toArray ((1, (.bool v)) :: rest) = Instr.fill (fun i => ([(0, 1), (1, 1), (2, 1), (3, 1), (4, 1), (5, 1), (6, 3)] : List (Nat × Nat))[i]?) ({ x with vickrey := v } : GAuctionSale).enc.toArray rest := by
  have h := fill_seg [(0, 1), (1, 1), (2, 1), (3, 1), (4, 1), (5, 1), (6, 3)] 1 1 1 rfl (([] : List Value) ++ ([(.string x.name)])) ([(.bool x.vickrey)]) ([(.int .i64 x.reserve)] ++ ([(.int .u64 x.close)] ++ ([(x.bids.val)] ++ ([(.bool x.settled)] ++ (x.result.enc ++ (([] : List Value))))))) ([(.bool v)]) (.bool v) rest (rfl) (by simp [GAuctionResult.enc_len]) (by simp [GAuctionResult.enc_len]) (by simp [GAuctionResult.enc_len])
  have e1 : x.enc = (([] : List Value) ++ ([(.string x.name)])) ++ ([(.bool x.vickrey)] ++ ([(.int .i64 x.reserve)] ++ ([(.int .u64 x.close)] ++ ([(x.bids.val)] ++ ([(.bool x.settled)] ++ (x.result.enc ++ (([] : List Value)))))))) := by simp [GAuctionSale.enc]
  have e2 : ({ x with vickrey := v } : GAuctionSale).enc = (([] : List Value) ++ ([(.string x.name)])) ++ ([(.bool v)] ++ ([(.int .i64 x.reserve)] ++ ([(.int .u64 x.close)] ++ ([(x.bids.val)] ++ ([(.bool x.settled)] ++ (x.result.enc ++ (([] : List Value)))))))) := by simp [GAuctionSale.enc]
  rw [e1, e2]; exact h
theorem fs70_2 (x : GAuctionSale) (v : Int) (rest : List (Nat × Value)) : Instr.fill (fun i => ([(0, 1), (1, 1), (2, 1), (3, 1), (4, 1), (5, 1), (6, 3)] : List (Nat × Nat))[i]?) x.enc.toArray ((2, (.int .i64 v)) :: rest) = Instr.fill (fun i => ([(0, 1), (1, 1), (2, 1), (3, 1), (4, 1), (5, 1), (6, 3)] : List (Nat × Nat))[i]?) ({ x with reserve := v } : GAuctionSale).enc.toArray rest := by
  have h := fill_seg [(0, 1), (1, 1), (2, 1), (3, 1), (4, 1), (5, 1), (6, 3)] 2 2 1 rfl (([] : List Value) ++ ([(.string x.name)] ++ ([(.bool x.vickrey)]))) ([(.int .i64 x.reserve)]) ([(.int .u64 x.close)] ++ ([(x.bids.val)] ++ ([(.bool x.settled)] ++ (x.result.enc ++ (([] : List Value)))))) ([(.int .i64 v)]) (.int .i64 v) rest (rfl) (by simp [GAuctionResult.enc_len]) (by simp [GAuctionResult.enc_len]) (by simp [GAuctionResult.enc_len])
  have e1 : x.enc = (([] : List Value) ++ ([(.string x.name)] ++ ([(.bool x.vickrey)]))) ++ ([(.int .i64 x.reserve)] ++ ([(.int .u64 x.close)] ++ ([(x.bids.val)] ++ ([(.bool x.settled)] ++ (x.result.enc ++ (([] : List Value))))))) := by simp [GAuctionSale.enc]
  have e2 : ({ x with reserve := v } : GAuctionSale).enc = (([] : List Value) ++ ([(.string x.name)] ++ ([(.bool x.vickrey)]))) ++ ([(.int .i64 v)] ++ ([(.int .u64 x.close)] ++ ([(x.bids.val)] ++ ([(.bool x.settled)] ++ (x.result.enc ++ (([] : List Value))))))) := by simp [GAuctionSale.enc]
  rw [e1, e2]; exact h
theorem fs70_3 (x : GAuctionSale) (v : Int) (rest : List (Nat × Value)) : Instr.fill (fun i => ([(0, 1), (1, 1), (2, 1), (3, 1), (4, 1), (5, 1), (6, 3)] : List (Nat × Nat))[i]?) x.enc.toArray ((3, (.int .u64 v)) :: rest) = Instr.fill (fun i => ([(0, 1), (1, 1), (2, 1), (3, 1), (4, 1), (5, 1), (6, 3)] : List (Nat × Nat))[i]?) ({ x with close := v } : GAuctionSale).enc.toArray rest := by
  have h := fill_seg [(0, 1), (1, 1), (2, 1), (3, 1), (4, 1), (5, 1), (6, 3)] 3 3 1 rfl (([] : List Value) ++ ([(.string x.name)] ++ ([(.bool x.vickrey)] ++ ([(.int .i64 x.reserve)])))) ([(.int .u64 x.close)]) ([(x.bids.val)] ++ ([(.bool x.settled)] ++ (x.result.enc ++ (([] : List Value))))) ([(.int .u64 v)]) (.int .u64 v) rest (rfl) (by simp [GAuctionResult.enc_len]) (by simp [GAuctionResult.enc_len]) (by simp [GAuctionResult.enc_len])
  have e1 : x.enc = (([] : List Value) ++ ([(.string x.name)] ++ ([(.bool x.vickrey)] ++ ([(.int .i64 x.reserve)])))) ++ ([(.int .u64 x.close)] ++ ([(x.bids.val)] ++ ([(.bool x.settled)] ++ (x.result.enc ++ (([] : List Value)))))) := by simp [GAuctionSale.enc]
  have e2 : ({ x with close := v } : GAuctionSale).enc = (([] : List Value) ++ ([(.string x.name)] ++ ([(.bool x.vickrey)] ++ ([(.int .i64 x.reserve)])))) ++ ([(.int .u64 v)] ++ ([(x.bids.val)] ++ ([(.bool x.settled)] ++ (x.result.enc ++ (([] : List Value)))))) := by simp [GAuctionSale.enc]
  rw [e1, e2]; exact h
@[go_sem ↓ high] theorem xd_GAuctionSale (ρ : Operand → Value) (dst : Option Tmp) (ps : Array (Nat × Operand)) (ty : TypeId) (pos : String) (after : Array Edge) (guard : Option (Nat × Bool)) : execOp ρ { dst, op := .build 70 ps, type := ty, pos, after, guard } = (do pure (.value (← gBuild 70 (ps.map fun (i, x) => (i, ρ x))))) := ex_build ..
@[go_sem ↓ high] theorem bd70_0 (w : World) (v0 : ByteArray) (v1 : Bool) (v2 : Int) (v3 : Int) : (gBuild 70 #[(0, (.string v0)), (1, (.bool v1)), (2, (.int .i64 v2)), (3, (.int .u64 v3))]).run Tryd.prog w = .ok (GAuctionSale.val ⟨v0, v1, v2, v3, default, false, default⟩) w := by
  rw [GAuctionSale.val_eq]
  refine run_gBuild_of uu70 zr70 pl70 ?_ w
  show Instr.fill _ (GAuctionSale.enc default).toArray [(0, (.string v0)), (1, (.bool v1)), (2, (.int .i64 v2)), (3, (.int .u64 v3))] = _
  rw [fs70_0, fs70_1, fs70_2, fs70_3]; rfl

/-! ### gavel/auction.bid -/
structure GAuctionBid where
  client : Int
  amount : Int
deriving DecidableEq
instance : Inhabited GAuctionBid := ⟨⟨0, 0⟩⟩
def GAuctionBid.enc (x : GAuctionBid) : List Value := [(.int .i64 x.client)] ++ ([(.int .i64 x.amount)])
theorem GAuctionBid.enc_len (x : GAuctionBid) : x.enc.length = 2 := by simp [GAuctionBid.enc]
theorem GAuctionBid.enc_one (x : GAuctionBid) : ∀ u ∈ x.enc, u.oneCell' = true := by
  intro u hu
  simp only [GAuctionBid.enc, List.mem_append, List.mem_singleton] at hu
  rcases hu with hu | hu
  · subst hu; rfl
  · subst hu; rfl
theorem GAuctionBid.enc_inj (x y : GAuctionBid) (h : x.enc = y.enc) : x = y := by
  obtain ⟨a0, a1⟩ := x
  obtain ⟨b0, b1⟩ := y
  simp only [GAuctionBid.enc] at h
  obtain ⟨p0, q0⟩ := List.append_inj h (rfl)
  have e0 : a0 = b0 := by have := List.head_eq_of_cons_eq p0; injection this
  have e1 : a1 = b1 := by have := List.head_eq_of_cons_eq q0; injection this
  rw [e0, e1]
instance : Enc GAuctionBid where
  n := 2
  enc := GAuctionBid.enc
  pos := by omega
  len := GAuctionBid.enc_len
  one := GAuctionBid.enc_one
  inj := GAuctionBid.enc_inj
@[go_sem] theorem GAuctionBid.n_eq : Enc.n GAuctionBid = 2 := rfl
@[irreducible] def GAuctionBid.val (x : GAuctionBid) : Value := .agg x.enc.toArray
theorem GAuctionBid.val_eq (x : GAuctionBid) : GAuctionBid.val x = .agg (Enc.enc x).toArray := by unfold GAuctionBid.val; rfl
theorem GAuctionBid.ext_all (x y : GAuctionBid) : x = y ↔ x.client = y.client ∧ x.amount = y.amount := by
  constructor
  · intro h; cases h; simp
  · intro h; cases x; cases y; simp_all
theorem uu82 : Tryd.prog.underlying 82 = some (.struct (Tryd.prog.fieldsOf 82)) := by kernel_rfl
theorem st82 : Tryd.prog.stoodInHeld 82 = false := by kernel_rfl
theorem fl82 : fieldTO Tryd.prog 82 = [(3, 0), (3, 1)] := by kernel_rfl
theorem nb82 : noBlank Tryd.prog 82 = true := by kernel_rfl
@[go_sem ↓ high] theorem xl_GAuctionBid (ρ : Operand → Value) (dst : Option Tmp) (x : Operand) (ty : TypeId) (pos : String) (after : Array Edge) (guard : Option (Nat × Bool)) : execOp ρ { dst, op := .load 82 x, type := ty, pos, after, guard } = (do pure (.value (← gLoad 82 (ρ x)))) := ex_load ..
@[go_sem ↓ high] theorem xs_GAuctionBid (ρ : Operand → Value) (dst : Option Tmp) (x y : Operand) (ty : TypeId) (pos : String) (after : Array Edge) (guard : Option (Nat × Bool)) : execOp ρ { dst, op := .store 82 x y, type := ty, pos, after, guard } = (do gStore 82 (ρ x) (ρ y); pure .skip) := ex_store ..
@[go_sem ↓ high] theorem xb_GAuctionBid (ρ : Operand → Value) (dst : Option Tmp) (x : Operand) (ty : TypeId) (pos : String) (after : Array Edge) (guard : Option (Nat × Bool)) : execOp ρ { dst, op := .box 82 x, type := ty, pos, after, guard } = (do pure (.value (← gBox 82 (ρ x)))) := ex_box ..
@[go_sem ↓ high] theorem xa_GAuctionBid (ρ : Operand → Value) (dst : Option Tmp) (ty : TypeId) (pos : String) (after : Array Edge) (guard : Option (Nat × Bool)) : execOp ρ { dst, op := .alloc 82, type := ty, pos, after, guard } = (do pure (.value (← gAlloc 82))) := ex_alloc ..
theorem ag82 : aggT Tryd.prog 82 = true := by kernel_rfl
theorem sz82 : sizeT Tryd.prog 82 = 2 := by kernel_rfl
section
variable (w : World)
@[go_sem ↓ high] theorem ld_GAuctionBid (a : Addr) : (gLoad 82 (.pointer (some a))).run Tryd.prog w = ofOpt ((get? GAuctionBid w a).map GAuctionBid.val) w (noLoad Tryd.prog 82 a w) := by
  unfold gLoad; exact run_loadAt_opt ag82 sz82 GAuctionBid.val GAuctionBid.val_eq
@[go_sem ↓ high] theorem st_GAuctionBid (a : Addr) (x : GAuctionBid) : (gStore 82 (.pointer (some a)) (GAuctionBid.val x)).run Tryd.prog w = okU' ((get? GAuctionBid w a).isSome && blkFree w a.block) (World.putCells w a (GAuctionBid.enc x)) (noStore Tryd.prog 82 (.pointer (some a)) (GAuctionBid.val x) w) := run_gStore_any sz82 GAuctionBid.val GAuctionBid.val_eq w a x
@[go_sem ↓ high] theorem bx_GAuctionBid (x : GAuctionBid) : (gBox 82 (GAuctionBid.val x)).run Tryd.prog w = .ok (.pointer (some ⟨w.heap.size, 0, none⟩)) (w.alloc (.cells (GAuctionBid.enc x).toArray 82)) := by
  rw [GAuctionBid.val_eq]; exact run_gBox _ w
end
theorem lk82_0 (x : GAuctionBid) : x.enc[0]? = some (.int .i64 x.client) := by
  simp [GAuctionBid.enc, List.getElem?_append]
theorem pt82_0 (w : World) (x : GAuctionBid) : (part 3 x.enc.toArray 0).run Tryd.prog w = .ok (.int .i64 x.client) w := run_part_one na3 us3 (lk82_0 x)
@[go_sem ↓ high] theorem fd82_0 (w : World) (x : GAuctionBid) : (gField 82 (GAuctionBid.val x) 0).run Tryd.prog w = .ok (.int .i64 x.client) w := by
  rw [GAuctionBid.val_eq]
  exact run_gField w uu82 (by rw [fl82]; rfl) (pt82_0 w x)
theorem lk82_1 (x : GAuctionBid) : x.enc[1]? = some (.int .i64 x.amount) := by
  simp [GAuctionBid.enc, List.getElem?_append]
theorem pt82_1 (w : World) (x : GAuctionBid) : (part 3 x.enc.toArray 1).run Tryd.prog w = .ok (.int .i64 x.amount) w := run_part_one na3 us3 (lk82_1 x)
@[go_sem ↓ high] theorem fd82_1 (w : World) (x : GAuctionBid) : (gField 82 (GAuctionBid.val x) 1).run Tryd.prog w = .ok (.int .i64 x.amount) w := by
  rw [GAuctionBid.val_eq]
  exact run_gField w uu82 (by rw [fl82]; rfl) (pt82_1 w x)
@[go_sem ↓ high] theorem xf_GAuctionBid (ρ : Operand → Value) (dst : Option Tmp) (x : Operand) (i : Nat) (ty : TypeId) (pos : String) (after : Array Edge) (guard : Option (Nat × Bool)) : execOp ρ { dst, op := .field 82 x i, type := ty, pos, after, guard } = (do pure (.value (← gField 82 (ρ x) i))) := ex_field ..
theorem zr82 : zeroT Tryd.prog 82 = some (.agg (GAuctionBid.enc default).toArray) := by kernel_rfl
@[go_sem ↓ high] theorem al_GAuctionBid (w : World) : (gAlloc 82).run Tryd.prog w = .ok (.pointer (some ⟨w.heap.size, 0, none⟩)) (w.alloc (.cells (GAuctionBid.enc default).toArray 82)) := run_zero_alloc zr82 w
@[go_sem] theorem pc_GAuctionBid (w : World) (n : Nat) (x z : GAuctionBid) (hn : n = w.heap.size) : World.putCells (w.alloc (.cells (GAuctionBid.enc z).toArray 82)) ⟨n, 0, none⟩ (GAuctionBid.enc x) = w.alloc (.cells (GAuctionBid.enc x).toArray 82) := putCells_top x z hn
theorem GAuctionBid.at_client {w : World} {a : Addr} {x : GAuctionBid} (h : get? GAuctionBid w a = some x) : w.cell? (a.add 0) = some (.int .i64 x.client) := (get?_iff.1 h) _ _ (lk82_0 x)
theorem GAuctionBid.at_amount {w : World} {a : Addr} {x : GAuctionBid} (h : get? GAuctionBid w a = some x) : w.cell? (a.add 1) = some (.int .i64 x.amount) := (get?_iff.1 h) _ _ (lk82_1 x)
@[go_sem] theorem nl82_0 (x : GAuctionBid) : x.enc[0]? = some (.int .i64 x.client) := by
  have h := (GAuctionBid.at_client (get?_new (w := (default : World)) 82 x))
  simp only [Addr.add_lit, Nat.zero_add, Nat.reduceAdd, World.cell?_alloc_new, List.getElem?_toArray] at h
  exact h
@[go_sem] theorem nl82_1 (x : GAuctionBid) : x.enc[1]? = some (.int .i64 x.amount) := by
  have h := (GAuctionBid.at_amount (get?_new (w := (default : World)) 82 x))
  simp only [Addr.add_lit, Nat.zero_add, Nat.reduceAdd, World.cell?_alloc_new, List.getElem?_toArray] at h
  exact h
@[go_sem] theorem nw82 (w : World) (n : Nat) (x : GAuctionBid) (hn : n = w.heap.size) : get? GAuctionBid (w.alloc (.cells (GAuctionBid.enc x).toArray 82)) ⟨n, 0, none⟩ = some x := by
  subst hn; exact get?_new 82 x
theorem pl82 : ((Tryd.prog.fieldsOf 82).toList.mapM fun f => (Tryd.prog.info? f.type).map fun i => (f.offset, i.size)) = some [(0, 1), (1, 1)] := by kernel_rfl
theorem fs82_0 (x : GAuctionBid) (v : Int) (rest : List (Nat × Value)) : Instr.fill (fun i => ([(0, 1), (1, 1)] : List (Nat × Nat))[i]?) x.enc.toArray ((0, (.int .i64 v)) :: rest) = Instr.fill (fun i => ([(0, 1), (1, 1)] : List (Nat × Nat))[i]?) ({ x with client := v } : GAuctionBid).enc.toArray rest := by
  have h := fill_seg [(0, 1), (1, 1)] 0 0 1 rfl (([] : List Value)) ([(.int .i64 x.client)]) ([(.int .i64 x.amount)] ++ (([] : List Value))) ([(.int .i64 v)]) (.int .i64 v) rest (rfl) (by simp) (by simp) (by simp)
  have e1 : x.enc = (([] : List Value)) ++ ([(.int .i64 x.client)] ++ ([(.int .i64 x.amount)] ++ (([] : List Value)))) := by simp [GAuctionBid.enc]
  have e2 : ({ x with client := v } : GAuctionBid).enc = (([] : List Value)) ++ ([(.int .i64 v)] ++ ([(.int .i64 x.amount)] ++ (([] : List Value)))) := by simp [GAuctionBid.enc]
  rw [e1, e2]; exact h
theorem fs82_1 (x : GAuctionBid) (v : Int) (rest : List (Nat × Value)) : Instr.fill (fun i => ([(0, 1), (1, 1)] : List (Nat × Nat))[i]?) x.enc.toArray ((1, (.int .i64 v)) :: rest) = Instr.fill (fun i => ([(0, 1), (1, 1)] : List (Nat × Nat))[i]?) ({ x with amount := v } : GAuctionBid).enc.toArray rest := by
  have h := fill_seg [(0, 1), (1, 1)] 1 1 1 rfl (([] : List Value) ++ ([(.int .i64 x.client)])) ([(.int .i64 x.amount)]) (([] : List Value)) ([(.int .i64 v)]) (.int .i64 v) rest (rfl) (by simp) (by simp) (by simp)
  have e1 : x.enc = (([] : List Value) ++ ([(.int .i64 x.client)])) ++ ([(.int .i64 x.amount)] ++ (([] : List Value))) := by simp [GAuctionBid.enc]
  have e2 : ({ x with amount := v } : GAuctionBid).enc = (([] : List Value) ++ ([(.int .i64 x.client)])) ++ ([(.int .i64 v)] ++ (([] : List Value))) := by simp [GAuctionBid.enc]
  rw [e1, e2]; exact h
@[go_sem ↓ high] theorem xd_GAuctionBid (ρ : Operand → Value) (dst : Option Tmp) (ps : Array (Nat × Operand)) (ty : TypeId) (pos : String) (after : Array Edge) (guard : Option (Nat × Bool)) : execOp ρ { dst, op := .build 82 ps, type := ty, pos, after, guard } = (do pure (.value (← gBuild 82 (ps.map fun (i, x) => (i, ρ x))))) := ex_build ..
@[go_sem ↓ high] theorem bd82_0 (w : World) (v0 : Int) (v1 : Int) : (gBuild 82 #[(0, (.int .i64 v0)), (1, (.int .i64 v1))]).run Tryd.prog w = .ok (GAuctionBid.val ⟨v0, v1⟩) w := by
  rw [GAuctionBid.val_eq]
  refine run_gBuild_of uu82 zr82 pl82 ?_ w
  show Instr.fill _ (GAuctionBid.enc default).toArray [(0, (.int .i64 v0)), (1, (.int .i64 v1))] = _
  rw [fs82_0, fs82_1]; rfl
theorem eq_GAuctionBid (w : World) (d : Nat) (x y : GAuctionBid) : (Op.equalIn (d + 2) 82 (GAuctionBid.val x) (GAuctionBid.val y)).run Tryd.prog w = .ok (decide (x = y)) w := by
  have q0 : ∀ a b, (Op.equalIn (d + 1) 3 (.int .i64 a) (.int .i64 b)).run Tryd.prog w = .ok (decide (a = b)) w := fun a b => by rw [run_equalIn_int w (d + 0) 3 .i64 .i64 a b uk3]; congr 1
  have q1 : ∀ a b, (Op.equalIn (d + 1) 3 (.int .i64 a) (.int .i64 b)).run Tryd.prog w = .ok (decide (a = b)) w := fun a b => by rw [run_equalIn_int w (d + 0) 3 .i64 .i64 a b uk3]; congr 1
  have h := run_equalIn_fields (d + 1) x.enc.toArray y.enc.toArray w uu82 st82 nb82
  rw [fl82] at h
  unfold GAuctionBid.val
  refine h.trans ?_
  clear h
  simp only [eqFs, Sem.run_bind, pt82_0, pt82_1, q0, q1, Result.andThen_ok, Sem.run_ite, Sem.run_pure]
  have he : decide (x = y) = (decide (x.client = y.client) && (decide (x.amount = y.amount))) := by
    rw [Bool.eq_iff_iff]; simp only [Bool.and_eq_true, decide_eq_true_eq]; exact GAuctionBid.ext_all x y
  rw [he]
  generalize decide (x.client = y.client) = c0; generalize decide (x.amount = y.amount) = c1
  cases c0 <;> cases c1 <;> simp
@[go_sem ↓ high] theorem xq_GAuctionBid (ρ : Operand → Value) (dst : Option Tmp) (x y : Operand) (ty yt : TypeId) (pos : String) (after : Array Edge) (guard : Option (Nat × Bool)) : execOp ρ { dst, op := .binOp .eql 82 x y yt, type := ty, pos, after, guard } = (do pure (.value (← gBin .eql 82 x y (ρ x) (ρ y)))) := ex_eql ..
@[go_sem ↓ high] theorem xn_GAuctionBid (ρ : Operand → Value) (dst : Option Tmp) (x y : Operand) (ty yt : TypeId) (pos : String) (after : Array Edge) (guard : Option (Nat × Bool)) : execOp ρ { dst, op := .binOp .neq 82 x y yt, type := ty, pos, after, guard } = (do pure (.value (← gBin .neq 82 x y (ρ x) (ρ y)))) := ex_neq ..
theorem eg_GAuctionBid : Tryd.prog.eqGuardType Tryd.prog.depth 82 = false := by kernel_rfl
@[go_sem ↓ high] theorem eql_GAuctionBid (w : World) (ox oy : Operand) (x y : GAuctionBid) : (gBin .eql 82 ox oy (GAuctionBid.val x) (GAuctionBid.val y)).run Tryd.prog w = .ok (.bool (decide (x = y))) w := by
  have h2 := eq_GAuctionBid w 9998 x y
  rw [GAuctionBid.val_eq, GAuctionBid.val_eq] at h2 ⊢
  have h := run_eqGuard_agg (P := Tryd.prog) w .eql 82 ox oy (Enc.enc x).toArray (Enc.enc y).toArray eg_GAuctionBid
  unfold gBin
  simp only [Sem.run_bind, h, Result.andThen_ok, run_eql_struct, h2]
@[go_sem ↓ high] theorem neq_GAuctionBid (w : World) (ox oy : Operand) (x y : GAuctionBid) : (gBin .neq 82 ox oy (GAuctionBid.val x) (GAuctionBid.val y)).run Tryd.prog w = .ok (.bool (!decide (x = y))) w := by
  have h2 := eq_GAuctionBid w 9998 x y
  rw [GAuctionBid.val_eq, GAuctionBid.val_eq] at h2 ⊢
  have h := run_eqGuard_agg (P := Tryd.prog) w .neq 82 ox oy (Enc.enc x).toArray (Enc.enc y).toArray eg_GAuctionBid
  unfold gBin
  simp only [Sem.run_bind, h, Result.andThen_ok, run_neq_struct, h2]

/-! ### gavel/auction.House -/
structure GAuctionHouse where
  m : Option Nat
deriving DecidableEq
instance : Inhabited GAuctionHouse := ⟨⟨none⟩⟩
def GAuctionHouse.enc (x : GAuctionHouse) : List Value := [(.map x.m)]
theorem GAuctionHouse.enc_len (x : GAuctionHouse) : x.enc.length = 1 := by simp [GAuctionHouse.enc]
theorem GAuctionHouse.enc_one (x : GAuctionHouse) : ∀ u ∈ x.enc, u.oneCell' = true := by
  intro u hu
  simp only [GAuctionHouse.enc, List.mem_append, List.mem_singleton] at hu
  subst hu; rfl
theorem GAuctionHouse.enc_inj (x y : GAuctionHouse) (h : x.enc = y.enc) : x = y := by
  obtain ⟨a0⟩ := x
  obtain ⟨b0⟩ := y
  simp only [GAuctionHouse.enc] at h
  have e0 : a0 = b0 := by have := List.head_eq_of_cons_eq h; injection this
  rw [e0]
instance : Enc GAuctionHouse where
  n := 1
  enc := GAuctionHouse.enc
  pos := by omega
  len := GAuctionHouse.enc_len
  one := GAuctionHouse.enc_one
  inj := GAuctionHouse.enc_inj
@[go_sem] theorem GAuctionHouse.n_eq : Enc.n GAuctionHouse = 1 := rfl
@[irreducible] def GAuctionHouse.val (x : GAuctionHouse) : Value := .agg x.enc.toArray
theorem GAuctionHouse.val_eq (x : GAuctionHouse) : GAuctionHouse.val x = .agg (Enc.enc x).toArray := by unfold GAuctionHouse.val; rfl
theorem GAuctionHouse.ext_all (x y : GAuctionHouse) : x = y ↔ x.m = y.m := by
  constructor
  · intro h; cases h; simp
  · intro h; cases x; cases y; simp_all
theorem uu61 : Tryd.prog.underlying 61 = some (.struct (Tryd.prog.fieldsOf 61)) := by kernel_rfl
theorem st61 : Tryd.prog.stoodInHeld 61 = false := by kernel_rfl
theorem fl61 : fieldTO Tryd.prog 61 = [(59, 0)] := by kernel_rfl
theorem nb61 : noBlank Tryd.prog 61 = true := by kernel_rfl
@[go_sem ↓ high] theorem xl_GAuctionHouse (ρ : Operand → Value) (dst : Option Tmp) (x : Operand) (ty : TypeId) (pos : String) (after : Array Edge) (guard : Option (Nat × Bool)) : execOp ρ { dst, op := .load 61 x, type := ty, pos, after, guard } = (do pure (.value (← gLoad 61 (ρ x)))) := ex_load ..
@[go_sem ↓ high] theorem xs_GAuctionHouse (ρ : Operand → Value) (dst : Option Tmp) (x y : Operand) (ty : TypeId) (pos : String) (after : Array Edge) (guard : Option (Nat × Bool)) : execOp ρ { dst, op := .store 61 x y, type := ty, pos, after, guard } = (do gStore 61 (ρ x) (ρ y); pure .skip) := ex_store ..
@[go_sem ↓ high] theorem xb_GAuctionHouse (ρ : Operand → Value) (dst : Option Tmp) (x : Operand) (ty : TypeId) (pos : String) (after : Array Edge) (guard : Option (Nat × Bool)) : execOp ρ { dst, op := .box 61 x, type := ty, pos, after, guard } = (do pure (.value (← gBox 61 (ρ x)))) := ex_box ..
@[go_sem ↓ high] theorem xa_GAuctionHouse (ρ : Operand → Value) (dst : Option Tmp) (ty : TypeId) (pos : String) (after : Array Edge) (guard : Option (Nat × Bool)) : execOp ρ { dst, op := .alloc 61, type := ty, pos, after, guard } = (do pure (.value (← gAlloc 61))) := ex_alloc ..
theorem ag61 : aggT Tryd.prog 61 = true := by kernel_rfl
theorem sz61 : sizeT Tryd.prog 61 = 1 := by kernel_rfl
section
variable (w : World)
@[go_sem ↓ high] theorem ld_GAuctionHouse (a : Addr) : (gLoad 61 (.pointer (some a))).run Tryd.prog w = ofOpt ((get? GAuctionHouse w a).map GAuctionHouse.val) w (noLoad Tryd.prog 61 a w) := by
  unfold gLoad; exact run_loadAt_opt ag61 sz61 GAuctionHouse.val GAuctionHouse.val_eq
@[go_sem ↓ high] theorem st_GAuctionHouse (a : Addr) (x : GAuctionHouse) : (gStore 61 (.pointer (some a)) (GAuctionHouse.val x)).run Tryd.prog w = okU' ((get? GAuctionHouse w a).isSome && blkFree w a.block) (World.putCells w a (GAuctionHouse.enc x)) (noStore Tryd.prog 61 (.pointer (some a)) (GAuctionHouse.val x) w) := run_gStore_any sz61 GAuctionHouse.val GAuctionHouse.val_eq w a x
@[go_sem ↓ high] theorem bx_GAuctionHouse (x : GAuctionHouse) : (gBox 61 (GAuctionHouse.val x)).run Tryd.prog w = .ok (.pointer (some ⟨w.heap.size, 0, none⟩)) (w.alloc (.cells (GAuctionHouse.enc x).toArray 61)) := by
  rw [GAuctionHouse.val_eq]; exact run_gBox _ w
end
theorem lk61_0 (x : GAuctionHouse) : x.enc[0]? = some (.map x.m) := by
  simp [GAuctionHouse.enc, List.getElem?_append]
theorem pt61_0 (w : World) (x : GAuctionHouse) : (part 59 x.enc.toArray 0).run Tryd.prog w = .ok (.map x.m) w := run_part_one na59 us59 (lk61_0 x)
@[go_sem ↓ high] theorem fd61_0 (w : World) (x : GAuctionHouse) : (gField 61 (GAuctionHouse.val x) 0).run Tryd.prog w = .ok (.map x.m) w := by
  rw [GAuctionHouse.val_eq]
  exact run_gField w uu61 (by rw [fl61]; rfl) (pt61_0 w x)
@[go_sem ↓ high] theorem xf_GAuctionHouse (ρ : Operand → Value) (dst : Option Tmp) (x : Operand) (i : Nat) (ty : TypeId) (pos : String) (after : Array Edge) (guard : Option (Nat × Bool)) : execOp ρ { dst, op := .field 61 x i, type := ty, pos, after, guard } = (do pure (.value (← gField 61 (ρ x) i))) := ex_field ..
theorem zr61 : zeroT Tryd.prog 61 = some (.agg (GAuctionHouse.enc default).toArray) := by kernel_rfl
@[go_sem ↓ high] theorem al_GAuctionHouse (w : World) : (gAlloc 61).run Tryd.prog w = .ok (.pointer (some ⟨w.heap.size, 0, none⟩)) (w.alloc (.cells (GAuctionHouse.enc default).toArray 61)) := run_zero_alloc zr61 w
@[go_sem] theorem pc_GAuctionHouse (w : World) (n : Nat) (x z : GAuctionHouse) (hn : n = w.heap.size) : World.putCells (w.alloc (.cells (GAuctionHouse.enc z).toArray 61)) ⟨n, 0, none⟩ (GAuctionHouse.enc x) = w.alloc (.cells (GAuctionHouse.enc x).toArray 61) := putCells_top x z hn
theorem GAuctionHouse.at_m {w : World} {a : Addr} {x : GAuctionHouse} (h : get? GAuctionHouse w a = some x) : w.cell? (a.add 0) = some (.map x.m) := (get?_iff.1 h) _ _ (lk61_0 x)
@[go_sem] theorem nl61_0 (x : GAuctionHouse) : x.enc[0]? = some (.map x.m) := by
  have h := (GAuctionHouse.at_m (get?_new (w := (default : World)) 61 x))
  simp only [Addr.add_lit, Nat.zero_add, Nat.reduceAdd, World.cell?_alloc_new, List.getElem?_toArray] at h
  exact h
@[go_sem] theorem nw61 (w : World) (n : Nat) (x : GAuctionHouse) (hn : n = w.heap.size) : get? GAuctionHouse (w.alloc (.cells (GAuctionHouse.enc x).toArray 61)) ⟨n, 0, none⟩ = some x := by
  subst hn; exact get?_new 61 x
theorem pl61 : ((Tryd.prog.fieldsOf 61).toList.mapM fun f => (Tryd.prog.info? f.type).map fun i => (f.offset, i.size)) = some [(0, 1)] := by kernel_rfl
theorem fs61_0 (x : GAuctionHouse) (v : Option Nat) (rest : List (Nat × Value)) : Instr.fill (fun i => ([(0, 1)] : List (Nat × Nat))[i]?) x.enc.toArray ((0, (.map v)) :: rest) = Instr.fill (fun i => ([(0, 1)] : List (Nat × Nat))[i]?) ({ x with m := v } : GAuctionHouse).enc.toArray rest := by
  have h := fill_seg [(0, 1)] 0 0 1 rfl (([] : List Value)) ([(.map x.m)]) (([] : List Value)) ([(.map v)]) (.map v) rest (rfl) (by simp) (by simp) (by simp)
  have e1 : x.enc = (([] : List Value)) ++ ([(.map x.m)] ++ (([] : List Value))) := by simp [GAuctionHouse.enc]
  have e2 : ({ x with m := v } : GAuctionHouse).enc = (([] : List Value)) ++ ([(.map v)] ++ (([] : List Value))) := by simp [GAuctionHouse.enc]
  rw [e1, e2]; exact h
@[go_sem ↓ high] theorem xd_GAuctionHouse (ρ : Operand → Value) (dst : Option Tmp) (ps : Array (Nat × Operand)) (ty : TypeId) (pos : String) (after : Array Edge) (guard : Option (Nat × Bool)) : execOp ρ { dst, op := .build 61 ps, type := ty, pos, after, guard } = (do pure (.value (← gBuild 61 (ps.map fun (i, x) => (i, ρ x))))) := ex_build ..
@[go_sem ↓ high] theorem bd61_0 (w : World) (v0 : Option Nat) : (gBuild 61 #[(0, (.map v0))]).run Tryd.prog w = .ok (GAuctionHouse.val ⟨v0⟩) w := by
  rw [GAuctionHouse.val_eq]
  refine run_gBuild_of uu61 zr61 pl61 ?_ w
  show Instr.fill _ (GAuctionHouse.enc default).toArray [(0, (.map v0))] = _
  rw [fs61_0]; rfl
/-! ### []auction.bid -/
theorem ei66 : ElemI Tryd.prog 66 82 GAuctionBid 16 := ⟨by kernel_rfl, by kernel_rfl⟩
@[go_sem ↓ high] theorem xg_66 (ρ : Operand → Value) (dst : Option Tmp) (ps : Array (Nat × Operand)) (ty : TypeId) (pos : String) (after : Array Edge) (guard : Option (Nat × Bool)) : execOp ρ { dst, op := .buildSlice 66 1 ps, type := ty, pos, after, guard } = (do pure (.value (← gBuildSlice 66 1 (ps.map fun (i, x) => (i, ρ x))))) := ex_buildSlice ..
@[go_sem ↓ high] theorem bs_66 (w : World) (x : GAuctionBid) : (gBuildSlice 66 1 #[(0, GAuctionBid.val x)]).run Tryd.prog w = .ok (.slice (some ⟨w.heap.size, 0, none⟩) 1 1) (w.alloc (.cells (GAuctionBid.enc x).toArray 82)) := by
  rw [GAuctionBid.val_eq]; exact run_buildSlice_one ei66 (by decide) x w
/-! ### []auction.sale -/
theorem ei65 : ElemI Tryd.prog 65 70 GAuctionSale 104 := ⟨by kernel_rfl, by kernel_rfl⟩
@[go_sem ↓ high] theorem xg_65 (ρ : Operand → Value) (dst : Option Tmp) (ps : Array (Nat × Operand)) (ty : TypeId) (pos : String) (after : Array Edge) (guard : Option (Nat × Bool)) : execOp ρ { dst, op := .buildSlice 65 1 ps, type := ty, pos, after, guard } = (do pure (.value (← gBuildSlice 65 1 (ps.map fun (i, x) => (i, ρ x))))) := ex_buildSlice ..
@[go_sem ↓ high] theorem bs_65 (w : World) (x : GAuctionSale) : (gBuildSlice 65 1 #[(0, GAuctionSale.val x)]).run Tryd.prog w = .ok (.slice (some ⟨w.heap.size, 0, none⟩) 1 1) (w.alloc (.cells (GAuctionSale.enc x).toArray 70)) := by
  rw [GAuctionSale.val_eq]; exact run_buildSlice_one ei65 (by decide) x w
/-! ### []auction.Result -/
theorem ei46 : ElemI Tryd.prog 46 68 GAuctionResult 32 := ⟨by kernel_rfl, by kernel_rfl⟩
@[go_sem ↓ high] theorem xg_46 (ρ : Operand → Value) (dst : Option Tmp) (ps : Array (Nat × Operand)) (ty : TypeId) (pos : String) (after : Array Edge) (guard : Option (Nat × Bool)) : execOp ρ { dst, op := .buildSlice 46 1 ps, type := ty, pos, after, guard } = (do pure (.value (← gBuildSlice 46 1 (ps.map fun (i, x) => (i, ρ x))))) := ex_buildSlice ..
@[go_sem ↓ high] theorem bs_46 (w : World) (x : GAuctionResult) : (gBuildSlice 46 1 #[(0, GAuctionResult.val x)]).run Tryd.prog w = .ok (.slice (some ⟨w.heap.size, 0, none⟩) 1 1) (w.alloc (.cells (GAuctionResult.enc x).toArray 68)) := by
  rw [GAuctionResult.val_eq]; exact run_buildSlice_one ei46 (by decide) x w
theorem kl9 : KeyLaws Tryd.prog 9 ByteArray := keyLaws_string uk9
instance : VEnc GAuctionSale := ⟨GAuctionSale.val, fun a b h => by rw [GAuctionSale.val_eq, GAuctionSale.val_eq] at h; injection h with h; exact Enc.inj _ _ (by simpa using congrArg Array.toList h)⟩

/-! ### map[string]auction.sale -/
theorem um59 : Tryd.prog.underlying 59 = some (.map 9 70) := by kernel_rfl
theorem zv59_70 : zeroT Tryd.prog 70 = some (VEnc.vv (default : GAuctionSale)) := by kernel_rfl
@[go_sem ↓ high] theorem xk_59 (ρ : Operand → Value) (dst : Option Tmp) (x y : Operand) (ok : Bool) (ty : TypeId) (pos : String) (after : Array Edge) (guard : Option (Nat × Bool)) : execOp ρ { dst, op := .lookup 59 x y ok, type := ty, pos, after, guard } = (do pure (.value (← gLookup 59 (ρ x) (ρ y) ok))) := ex_lookup ..
@[go_sem ↓ high] theorem xu_59 (ρ : Operand → Value) (dst : Option Tmp) (x y z : Operand) (ty : TypeId) (pos : String) (after : Array Edge) (guard : Option (Nat × Bool)) : execOp ρ { dst, op := .mapUpdate 59 x y z, type := ty, pos, after, guard } = (do gMapUpdate 59 (ρ x) (ρ y) (ρ z); pure .skip) := ex_mapUpdate ..
@[go_sem ↓ high] theorem lk_59 (w : World) (r : Nat) (k : ByteArray) : (gLookup 59 (.map (some r)) (.string k) false).run Tryd.prog w = ofOpt ((mapAt ByteArray GAuctionSale w r).map fun m => (GAuctionSale.val ((mget m k).getD default))) w (noLookup Tryd.prog 59 (.map (some r)) (.string k) false w) :=
  run_gLookup kl9 um59 zv59_70 w r k
@[go_sem ↓ high] theorem lo_59 (w : World) (r : Nat) (k : ByteArray) : (gLookup 59 (.map (some r)) (.string k) true).run Tryd.prog w = ofOpt ((mapAt ByteArray GAuctionSale w r).map fun m => .tuple #[(GAuctionSale.val ((mget m k).getD default)), .bool (mget m k).isSome]) w (noLookup Tryd.prog 59 (.map (some r)) (.string k) true w) :=
  run_gLookup_ok kl9 um59 zv59_70 w r k
@[go_sem ↓ high] theorem ln_59 (w : World) (k : ByteArray) : (gLookup 59 (.map none) (.string k) false).run Tryd.prog w = .ok (GAuctionSale.val (default : GAuctionSale)) w :=
  run_gLookup_nil kl9 um59 zv59_70 w k
@[go_sem ↓ high] theorem mu_59 (w : World) (r : Nat) (k : ByteArray) (v : GAuctionSale) : (gMapUpdate 59 (.map (some r)) (.string k) (GAuctionSale.val v)).run Tryd.prog w = okU ((mapAt ByteArray GAuctionSale w r).isSome) (mput Tryd.prog 59 w r k v) (noUpdate Tryd.prog 59 (.map (some r)) (.string k) (GAuctionSale.val v) w) :=
  run_gMapUpdate kl9 um59 w r k v
@[go_sem] theorem sz_mput_59 (w : World) (r : Nat) (k : ByteArray) (v : GAuctionSale) (h : (mapAt ByteArray GAuctionSale w r).isSome = true) : (mput Tryd.prog 59 w r k v).heap.size = w.heap.size := by
  obtain ⟨m, hm⟩ := Option.isSome_iff_exists.1 h; exact mput_size kl9 um59 hm k v

end Go.Proofs.YtgeimnknmljplaaDoor
/- The struct types of this seat as Lean types, with the runs of single operations over them. Conditions: those named in each theorem. -/
namespace Go.Proofs.YtgeimnknmljplaaDoor
open Go Go.RowKit Go.Gv
set_option linter.unusedSimpArgs false

theorem na40 : aggT Tryd.prog 40 = false := by kernel_rfl
theorem us40 : (Tryd.prog.underlying 40).isSome = true := by kernel_rfl
theorem na42 : aggT Tryd.prog 42 = false := by kernel_rfl
theorem us42 : (Tryd.prog.underlying 42).isSome = true := by kernel_rfl
theorem na62 : aggT Tryd.prog 62 = false := by kernel_rfl
theorem us62 : (Tryd.prog.underlying 62).isSome = true := by kernel_rfl

/-! ### gavel/registry.Registry -/
structure GRegistryRegistry where
  m : Option Nat
deriving DecidableEq
instance : Inhabited GRegistryRegistry := ⟨⟨none⟩⟩
def GRegistryRegistry.enc (x : GRegistryRegistry) : List Value := [(.map x.m)]
theorem GRegistryRegistry.enc_len (x : GRegistryRegistry) : x.enc.length = 1 := by simp [GRegistryRegistry.enc]
theorem GRegistryRegistry.enc_one (x : GRegistryRegistry) : ∀ u ∈ x.enc, u.oneCell' = true := by
  intro u hu
  simp only [GRegistryRegistry.enc, List.mem_append, List.mem_singleton] at hu
  subst hu; rfl
theorem GRegistryRegistry.enc_inj (x y : GRegistryRegistry) (h : x.enc = y.enc) : x = y := by
  obtain ⟨a0⟩ := x
  obtain ⟨b0⟩ := y
  simp only [GRegistryRegistry.enc] at h
  have e0 : a0 = b0 := by have := List.head_eq_of_cons_eq h; injection this
  rw [e0]
instance : Enc GRegistryRegistry where
  n := 1
  enc := GRegistryRegistry.enc
  pos := by omega
  len := GRegistryRegistry.enc_len
  one := GRegistryRegistry.enc_one
  inj := GRegistryRegistry.enc_inj
@[go_sem] theorem GRegistryRegistry.n_eq : Enc.n GRegistryRegistry = 1 := rfl
@[irreducible] def GRegistryRegistry.val (x : GRegistryRegistry) : Value := .agg x.enc.toArray
theorem GRegistryRegistry.val_eq (x : GRegistryRegistry) : GRegistryRegistry.val x = .agg (Enc.enc x).toArray := by unfold GRegistryRegistry.val; rfl
theorem GRegistryRegistry.ext_all (x y : GRegistryRegistry) : x = y ↔ x.m = y.m := by
  constructor
  · intro h; cases h; simp
  · intro h; cases x; cases y; simp_all
theorem uu64 : Tryd.prog.underlying 64 = some (.struct (Tryd.prog.fieldsOf 64)) := by kernel_rfl
theorem st64 : Tryd.prog.stoodInHeld 64 = false := by kernel_rfl
theorem fl64 : fieldTO Tryd.prog 64 = [(62, 0)] := by kernel_rfl
theorem nb64 : noBlank Tryd.prog 64 = true := by kernel_rfl
@[go_sem ↓ high] theorem xl_GRegistryRegistry (ρ : Operand → Value) (dst : Option Tmp) (x : Operand) (ty : TypeId) (pos : String) (after : Array Edge) (guard : Option (Nat × Bool)) : execOp ρ { dst, op := .load 64 x, type := ty, pos, after, guard } = (do pure (.value (← gLoad 64 (ρ x)))) := ex_load ..
@[go_sem ↓ high] theorem xs_GRegistryRegistry (ρ : Operand → Value) (dst : Option Tmp) (x y : Operand) (ty : TypeId) (pos : String) (after : Array Edge) (guard : Option (Nat × Bool)) : execOp ρ { dst, op := .store 64 x y, type := ty, pos, after, guard } = (do gStore 64 (ρ x) (ρ y); pure .skip) := ex_store ..
@[go_sem ↓ high] theorem xb_GRegistryRegistry (ρ : Operand → Value) (dst : Option Tmp) (x : Operand) (ty : TypeId) (pos : String) (after : Array Edge) (guard : Option (Nat × Bool)) : execOp ρ { dst, op := .box 64 x, type := ty, pos, after, guard } = (do pure (.value (← gBox 64 (ρ x)))) := ex_box ..
@[go_sem ↓ high] theorem xa_GRegistryRegistry (ρ : Operand → Value) (dst : Option Tmp) (ty : TypeId) (pos : String) (after : Array Edge) (guard : Option (Nat × Bool)) : execOp ρ { dst, op := .alloc 64, type := ty, pos, after, guard } = (do pure (.value (← gAlloc 64))) := ex_alloc ..
theorem ag64 : aggT Tryd.prog 64 = true := by kernel_rfl
theorem sz64 : sizeT Tryd.prog 64 = 1 := by kernel_rfl
section
variable (w : World)
@[go_sem ↓ high] theorem ld_GRegistryRegistry (a : Addr) : (gLoad 64 (.pointer (some a))).run Tryd.prog w = ofOpt ((get? GRegistryRegistry w a).map GRegistryRegistry.val) w (noLoad Tryd.prog 64 a w) := by
  unfold gLoad; exact run_loadAt_opt ag64 sz64 GRegistryRegistry.val GRegistryRegistry.val_eq
@[go_sem ↓ high] theorem st_GRegistryRegistry (a : Addr) (x : GRegistryRegistry) : (gStore 64 (.pointer (some a)) (GRegistryRegistry.val x)).run Tryd.prog w = okU' ((get? GRegistryRegistry w a).isSome && blkFree w a.block) (World.putCells w a (GRegistryRegistry.enc x)) (noStore Tryd.prog 64 (.pointer (some a)) (GRegistryRegistry.val x) w) := run_gStore_any sz64 GRegistryRegistry.val GRegistryRegistry.val_eq w a x
@[go_sem ↓ high] theorem bx_GRegistryRegistry (x : GRegistryRegistry) : (gBox 64 (GRegistryRegistry.val x)).run Tryd.prog w = .ok (.pointer (some ⟨w.heap.size, 0, none⟩)) (w.alloc (.cells (GRegistryRegistry.enc x).toArray 64)) := by
  rw [GRegistryRegistry.val_eq]; exact run_gBox _ w
end
theorem lk64_0 (x : GRegistryRegistry) : x.enc[0]? = some (.map x.m) := by
  simp [GRegistryRegistry.enc, List.getElem?_append]
theorem pt64_0 (w : World) (x : GRegistryRegistry) : (part 62 x.enc.toArray 0).run Tryd.prog w = .ok (.map x.m) w := run_part_one na62 us62 (lk64_0 x)
@[go_sem ↓ high] theorem fd64_0 (w : World) (x : GRegistryRegistry) : (gField 64 (GRegistryRegistry.val x) 0).run Tryd.prog w = .ok (.map x.m) w := by
  rw [GRegistryRegistry.val_eq]
  exact run_gField w uu64 (by rw [fl64]; rfl) (pt64_0 w x)
@[go_sem ↓ high] theorem xf_GRegistryRegistry (ρ : Operand → Value) (dst : Option Tmp) (x : Operand) (i : Nat) (ty : TypeId) (pos : String) (after : Array Edge) (guard : Option (Nat × Bool)) : execOp ρ { dst, op := .field 64 x i, type := ty, pos, after, guard } = (do pure (.value (← gField 64 (ρ x) i))) := ex_field ..
theorem zr64 : zeroT Tryd.prog 64 = some (.agg (GRegistryRegistry.enc default).toArray) := by kernel_rfl
@[go_sem ↓ high] theorem al_GRegistryRegistry (w : World) : (gAlloc 64).run Tryd.prog w = .ok (.pointer (some ⟨w.heap.size, 0, none⟩)) (w.alloc (.cells (GRegistryRegistry.enc default).toArray 64)) := run_zero_alloc zr64 w
@[go_sem] theorem pc_GRegistryRegistry (w : World) (n : Nat) (x z : GRegistryRegistry) (hn : n = w.heap.size) : World.putCells (w.alloc (.cells (GRegistryRegistry.enc z).toArray 64)) ⟨n, 0, none⟩ (GRegistryRegistry.enc x) = w.alloc (.cells (GRegistryRegistry.enc x).toArray 64) := putCells_top x z hn
theorem GRegistryRegistry.at_m {w : World} {a : Addr} {x : GRegistryRegistry} (h : get? GRegistryRegistry w a = some x) : w.cell? (a.add 0) = some (.map x.m) := (get?_iff.1 h) _ _ (lk64_0 x)
@[go_sem] theorem nl64_0 (x : GRegistryRegistry) : x.enc[0]? = some (.map x.m) := by
  have h := (GRegistryRegistry.at_m (get?_new (w := (default : World)) 64 x))
  simp only [Addr.add_lit, Nat.zero_add, Nat.reduceAdd, World.cell?_alloc_new, List.getElem?_toArray] at h
  exact h
@[go_sem] theorem nw64 (w : World) (n : Nat) (x : GRegistryRegistry) (hn : n = w.heap.size) : get? GRegistryRegistry (w.alloc (.cells (GRegistryRegistry.enc x).toArray 64)) ⟨n, 0, none⟩ = some x := by
  subst hn; exact get?_new 64 x
theorem pl64 : ((Tryd.prog.fieldsOf 64).toList.mapM fun f => (Tryd.prog.info? f.type).map fun i => (f.offset, i.size)) = some [(0, 1)] := by kernel_rfl
theorem fs64_0 (x : GRegistryRegistry) (v : Option Nat) (rest : List (Nat × Value)) : Instr.fill (fun i => ([(0, 1)] : List (Nat × Nat))[i]?) x.enc.toArray ((0, (.map v)) :: rest) = Instr.fill (fun i => ([(0, 1)] : List (Nat × Nat))[i]?) ({ x with m := v } : GRegistryRegistry).enc.toArray rest := by
  have h := fill_seg [(0, 1)] 0 0 1 rfl (([] : List Value)) ([(.map x.m)]) (([] : List Value)) ([(.map v)]) (.map v) rest (rfl) (by simp) (by simp) (by simp)
  have e1 : x.enc = (([] : List Value)) ++ ([(.map x.m)] ++ (([] : List Value))) := by simp [GRegistryRegistry.enc]
  have e2 : ({ x with m := v } : GRegistryRegistry).enc = (([] : List Value)) ++ ([(.map v)] ++ (([] : List Value))) := by simp [GRegistryRegistry.enc]
  rw [e1, e2]; exact h
@[go_sem ↓ high] theorem xd_GRegistryRegistry (ρ : Operand → Value) (dst : Option Tmp) (ps : Array (Nat × Operand)) (ty : TypeId) (pos : String) (after : Array Edge) (guard : Option (Nat × Bool)) : execOp ρ { dst, op := .build 64 ps, type := ty, pos, after, guard } = (do pure (.value (← gBuild 64 (ps.map fun (i, x) => (i, ρ x))))) := ex_build ..
@[go_sem ↓ high] theorem bd64_0 (w : World) (v0 : Option Nat) : (gBuild 64 #[(0, (.map v0))]).run Tryd.prog w = .ok (GRegistryRegistry.val ⟨v0⟩) w := by
  rw [GRegistryRegistry.val_eq]
  refine run_gBuild_of uu64 zr64 pl64 ?_ w
  show Instr.fill _ (GRegistryRegistry.enc default).toArray [(0, (.map v0))] = _
  rw [fs64_0]; rfl

/-! ### gavel/app.App -/
structure GAppApp where
  h : Option Addr
  r : Option Addr
  n : Int
deriving DecidableEq
instance : Inhabited GAppApp := ⟨⟨none, none, 0⟩⟩
def GAppApp.enc (x : GAppApp) : List Value := [(.pointer x.h)] ++ ([(.pointer x.r)] ++ ([(.int .i64 x.n)]))
theorem GAppApp.enc_len (x : GAppApp) : x.enc.length = 3 := by simp [GAppApp.enc]
theorem GAppApp.enc_one (x : GAppApp) : ∀ u ∈ x.enc, u.oneCell' = true := by
  intro u hu
  simp only [GAppApp.enc, List.mem_append, List.mem_singleton] at hu
  rcases hu with hu | hu | hu
  · subst hu; rfl
  · subst hu; rfl
  · subst hu; rfl
theorem GAppApp.enc_inj (x y : GAppApp) (h : x.enc = y.enc) : x = y := by
  obtain ⟨a0, a1, a2⟩ := x
  obtain ⟨b0, b1, b2⟩ := y
  simp only [GAppApp.enc] at h
  obtain ⟨p0, q0⟩ := List.append_inj h (rfl)
  have e0 : a0 = b0 := by have := List.head_eq_of_cons_eq p0; injection this
  obtain ⟨p1, q1⟩ := List.append_inj q0 (rfl)
  have e1 : a1 = b1 := by have := List.head_eq_of_cons_eq p1; injection this
  have e2 : a2 = b2 := by have := List.head_eq_of_cons_eq q1; injection this
  rw [e0, e1, e2]
instance : Enc GAppApp where
  n := 3
  enc := GAppApp.enc
  pos := by omega
  len := GAppApp.enc_len
  one := GAppApp.enc_one
  inj := GAppApp.enc_inj
@[go_sem] theorem GAppApp.n_eq : Enc.n GAppApp = 3 := rfl
@[irreducible] def GAppApp.val (x : GAppApp) : Value := .agg x.enc.toArray
theorem GAppApp.val_eq (x : GAppApp) : GAppApp.val x = .agg (Enc.enc x).toArray := by unfold GAppApp.val; rfl
theorem GAppApp.ext_all (x y : GAppApp) : x = y ↔ x.h = y.h ∧ x.r = y.r ∧ x.n = y.n := by
  constructor
  · intro h; cases h; simp
  · intro h; cases x; cases y; simp_all
theorem uu45 : Tryd.prog.underlying 45 = some (.struct (Tryd.prog.fieldsOf 45)) := by kernel_rfl
theorem st45 : Tryd.prog.stoodInHeld 45 = false := by kernel_rfl
theorem fl45 : fieldTO Tryd.prog 45 = [(40, 0), (42, 1), (3, 2)] := by kernel_rfl
theorem nb45 : noBlank Tryd.prog 45 = true := by kernel_rfl
@[go_sem ↓ high] theorem xl_GAppApp (ρ : Operand → Value) (dst : Option Tmp) (x : Operand) (ty : TypeId) (pos : String) (after : Array Edge) (guard : Option (Nat × Bool)) : execOp ρ { dst, op := .load 45 x, type := ty, pos, after, guard } = (do pure (.value (← gLoad 45 (ρ x)))) := ex_load ..
@[go_sem ↓ high] theorem xs_GAppApp (ρ : Operand → Value) (dst : Option Tmp) (x y : Operand) (ty : TypeId) (pos : String) (after : Array Edge) (guard : Option (Nat × Bool)) : execOp ρ { dst, op := .store 45 x y, type := ty, pos, after, guard } = (do gStore 45 (ρ x) (ρ y); pure .skip) := ex_store ..
@[go_sem ↓ high] theorem xb_GAppApp (ρ : Operand → Value) (dst : Option Tmp) (x : Operand) (ty : TypeId) (pos : String) (after : Array Edge) (guard : Option (Nat × Bool)) : execOp ρ { dst, op := .box 45 x, type := ty, pos, after, guard } = (do pure (.value (← gBox 45 (ρ x)))) := ex_box ..
@[go_sem ↓ high] theorem xa_GAppApp (ρ : Operand → Value) (dst : Option Tmp) (ty : TypeId) (pos : String) (after : Array Edge) (guard : Option (Nat × Bool)) : execOp ρ { dst, op := .alloc 45, type := ty, pos, after, guard } = (do pure (.value (← gAlloc 45))) := ex_alloc ..
theorem ag45 : aggT Tryd.prog 45 = true := by kernel_rfl
theorem sz45 : sizeT Tryd.prog 45 = 3 := by kernel_rfl
section
variable (w : World)
@[go_sem ↓ high] theorem ld_GAppApp (a : Addr) : (gLoad 45 (.pointer (some a))).run Tryd.prog w = ofOpt ((get? GAppApp w a).map GAppApp.val) w (noLoad Tryd.prog 45 a w) := by
  unfold gLoad; exact run_loadAt_opt ag45 sz45 GAppApp.val GAppApp.val_eq
@[go_sem ↓ high] theorem st_GAppApp (a : Addr) (x : GAppApp) : (gStore 45 (.pointer (some a)) (GAppApp.val x)).run Tryd.prog w = okU' ((get? GAppApp w a).isSome && blkFree w a.block) (World.putCells w a (GAppApp.enc x)) (noStore Tryd.prog 45 (.pointer (some a)) (GAppApp.val x) w) := run_gStore_any sz45 GAppApp.val GAppApp.val_eq w a x
@[go_sem ↓ high] theorem bx_GAppApp (x : GAppApp) : (gBox 45 (GAppApp.val x)).run Tryd.prog w = .ok (.pointer (some ⟨w.heap.size, 0, none⟩)) (w.alloc (.cells (GAppApp.enc x).toArray 45)) := by
  rw [GAppApp.val_eq]; exact run_gBox _ w
end
theorem lk45_0 (x : GAppApp) : x.enc[0]? = some (.pointer x.h) := by
  simp [GAppApp.enc, List.getElem?_append]
theorem pt45_0 (w : World) (x : GAppApp) : (part 40 x.enc.toArray 0).run Tryd.prog w = .ok (.pointer x.h) w := run_part_one na40 us40 (lk45_0 x)
@[go_sem ↓ high] theorem fd45_0 (w : World) (x : GAppApp) : (gField 45 (GAppApp.val x) 0).run Tryd.prog w = .ok (.pointer x.h) w := by
  rw [GAppApp.val_eq]
  exact run_gField w uu45 (by rw [fl45]; rfl) (pt45_0 w x)
theorem lk45_1 (x : GAppApp) : x.enc[1]? = some (.pointer x.r) := by
  simp [GAppApp.enc, List.getElem?_append]
theorem pt45_1 (w : World) (x : GAppApp) : (part 42 x.enc.toArray 1).run Tryd.prog w = .ok (.pointer x.r) w := run_part_one na42 us42 (lk45_1 x)
@[go_sem ↓ high] theorem fd45_1 (w : World) (x : GAppApp) : (gField 45 (GAppApp.val x) 1).run Tryd.prog w = .ok (.pointer x.r) w := by
  rw [GAppApp.val_eq]
  exact run_gField w uu45 (by rw [fl45]; rfl) (pt45_1 w x)
theorem lk45_2 (x : GAppApp) : x.enc[2]? = some (.int .i64 x.n) := by
  simp [GAppApp.enc, List.getElem?_append]
theorem pt45_2 (w : World) (x : GAppApp) : (part 3 x.enc.toArray 2).run Tryd.prog w = .ok (.int .i64 x.n) w := run_part_one na3 us3 (lk45_2 x)
@[go_sem ↓ high] theorem fd45_2 (w : World) (x : GAppApp) : (gField 45 (GAppApp.val x) 2).run Tryd.prog w = .ok (.int .i64 x.n) w := by
  rw [GAppApp.val_eq]
  exact run_gField w uu45 (by rw [fl45]; rfl) (pt45_2 w x)
@[go_sem ↓ high] theorem xf_GAppApp (ρ : Operand → Value) (dst : Option Tmp) (x : Operand) (i : Nat) (ty : TypeId) (pos : String) (after : Array Edge) (guard : Option (Nat × Bool)) : execOp ρ { dst, op := .field 45 x i, type := ty, pos, after, guard } = (do pure (.value (← gField 45 (ρ x) i))) := ex_field ..
theorem zr45 : zeroT Tryd.prog 45 = some (.agg (GAppApp.enc default).toArray) := by kernel_rfl
@[go_sem ↓ high] theorem al_GAppApp (w : World) : (gAlloc 45).run Tryd.prog w = .ok (.pointer (some ⟨w.heap.size, 0, none⟩)) (w.alloc (.cells (GAppApp.enc default).toArray 45)) := run_zero_alloc zr45 w
@[go_sem] theorem pc_GAppApp (w : World) (n : Nat) (x z : GAppApp) (hn : n = w.heap.size) : World.putCells (w.alloc (.cells (GAppApp.enc z).toArray 45)) ⟨n, 0, none⟩ (GAppApp.enc x) = w.alloc (.cells (GAppApp.enc x).toArray 45) := putCells_top x z hn
theorem GAppApp.at_h {w : World} {a : Addr} {x : GAppApp} (h : get? GAppApp w a = some x) : w.cell? (a.add 0) = some (.pointer x.h) := (get?_iff.1 h) _ _ (lk45_0 x)
theorem GAppApp.at_r {w : World} {a : Addr} {x : GAppApp} (h : get? GAppApp w a = some x) : w.cell? (a.add 1) = some (.pointer x.r) := (get?_iff.1 h) _ _ (lk45_1 x)
theorem GAppApp.at_n {w : World} {a : Addr} {x : GAppApp} (h : get? GAppApp w a = some x) : w.cell? (a.add 2) = some (.int .i64 x.n) := (get?_iff.1 h) _ _ (lk45_2 x)
@[go_sem] theorem nl45_0 (x : GAppApp) : x.enc[0]? = some (.pointer x.h) := by
  have h := (GAppApp.at_h (get?_new (w := (default : World)) 45 x))
  simp only [Addr.add_lit, Nat.zero_add, Nat.reduceAdd, World.cell?_alloc_new, List.getElem?_toArray] at h
  exact h
@[go_sem] theorem nl45_1 (x : GAppApp) : x.enc[1]? = some (.pointer x.r) := by
  have h := (GAppApp.at_r (get?_new (w := (default : World)) 45 x))
  simp only [Addr.add_lit, Nat.zero_add, Nat.reduceAdd, World.cell?_alloc_new, List.getElem?_toArray] at h
  exact h
@[go_sem] theorem nl45_2 (x : GAppApp) : x.enc[2]? = some (.int .i64 x.n) := by
  have h := (GAppApp.at_n (get?_new (w := (default : World)) 45 x))
  simp only [Addr.add_lit, Nat.zero_add, Nat.reduceAdd, World.cell?_alloc_new, List.getElem?_toArray] at h
  exact h
@[go_sem] theorem nw45 (w : World) (n : Nat) (x : GAppApp) (hn : n = w.heap.size) : get? GAppApp (w.alloc (.cells (GAppApp.enc x).toArray 45)) ⟨n, 0, none⟩ = some x := by
  subst hn; exact get?_new 45 x
theorem pl45 : ((Tryd.prog.fieldsOf 45).toList.mapM fun f => (Tryd.prog.info? f.type).map fun i => (f.offset, i.size)) = some [(0, 1), (1, 1), (2, 1)] := by kernel_rfl
theorem fs45_0 (x : GAppApp) (v : Option Addr) (rest : List (Nat × Value)) : Instr.fill (fun i => ([(0, 1), (1, 1), (2, 1)] : List (Nat × Nat))[i]?) x.enc.toArray ((0, (.pointer v)) :: rest) = Instr.fill (fun i => ([(0, 1), (1, 1), (2, 1)] : List (Nat × Nat))[i]?) ({ x with h := v } : GAppApp).enc.toArray rest := by
  have h := fill_seg [(0, 1), (1, 1), (2, 1)] 0 0 1 rfl (([] : List Value)) ([(.pointer x.h)]) ([(.pointer x.r)] ++ ([(.int .i64 x.n)] ++ (([] : List Value)))) ([(.pointer v)]) (.pointer v) rest (rfl) (by simp) (by simp) (by simp)
  have e1 : x.enc = (([] : List Value)) ++ ([(.pointer x.h)] ++ ([(.pointer x.r)] ++ ([(.int .i64 x.n)] ++ (([] : List Value))))) := by simp [GAppApp.enc]
  have e2 : ({ x with h := v } : GAppApp).enc = (([] : List Value)) ++ ([(.pointer v)] ++ ([(.pointer x.r)] ++ ([(.int .i64 x.n)] ++ (([] : List Value))))) := by simp [GAppApp.enc]
  rw [e1, e2]; exact h
theorem fs45_1 (x : GAppApp) (v : Option Addr) (rest : List (Nat × Value)) : Instr.fill (fun i => ([(0, 1), (1, 1), (2, 1)] : List (Nat × Nat))[i]?) x.enc.toArray ((1, (.pointer v)) :: rest) = Instr.fill (fun i => ([(0, 1), (1, 1), (2, 1)] : List (Nat × Nat))[i]?) ({ x with r := v } : GAppApp).enc.toArray rest := by
  have h := fill_seg [(0, 1), (1, 1), (2, 1)] 1 1 1 rfl (([] : List Value) ++ ([(.pointer x.h)])) ([(.pointer x.r)]) ([(.int .i64 x.n)] ++ (([] : List Value))) ([(.pointer v)]) (.pointer v) rest (rfl) (by simp) (by simp) (by simp)
  have e1 : x.enc = (([] : List Value) ++ ([(.pointer x.h)])) ++ ([(.pointer x.r)] ++ ([(.int .i64 x.n)] ++ (([] : List Value)))) := by simp [GAppApp.enc]
  have e2 : ({ x with r := v } : GAppApp).enc = (([] : List Value) ++ ([(.pointer x.h)])) ++ ([(.pointer v)] ++ ([(.int .i64 x.n)] ++ (([] : List Value)))) := by simp [GAppApp.enc]
  rw [e1, e2]; exact h
@[go_sem ↓ high] theorem xd_GAppApp (ρ : Operand → Value) (dst : Option Tmp) (ps : Array (Nat × Operand)) (ty : TypeId) (pos : String) (after : Array Edge) (guard : Option (Nat × Bool)) : execOp ρ { dst, op := .build 45 ps, type := ty, pos, after, guard } = (do pure (.value (← gBuild 45 (ps.map fun (i, x) => (i, ρ x))))) := ex_build ..
@[go_sem ↓ high] theorem bd45_0 (w : World) (v0 : Option Addr) (v1 : Option Addr) : (gBuild 45 #[(0, (.pointer v0)), (1, (.pointer v1))]).run Tryd.prog w = .ok (GAppApp.val ⟨v0, v1, 0⟩) w := by
  rw [GAppApp.val_eq]
  refine run_gBuild_of uu45 zr45 pl45 ?_ w
  show Instr.fill _ (GAppApp.enc default).toArray [(0, (.pointer v0)), (1, (.pointer v1))] = _
  rw [fs45_0, fs45_1]; rfl
/-! ### []string -/
theorem ei48 : ElemI Tryd.prog 48 9 StrV 16 := ⟨by kernel_rfl, by kernel_rfl⟩

/-! ### map[string]int -/
theorem um62 : Tryd.prog.underlying 62 = some (.map 9 3) := by kernel_rfl
theorem zv62_3 : zeroT Tryd.prog 3 = some (VEnc.vv (0 : Int)) := by kernel_rfl
@[go_sem ↓ high] theorem xk_62 (ρ : Operand → Value) (dst : Option Tmp) (x y : Operand) (ok : Bool) (ty : TypeId) (pos : String) (after : Array Edge) (guard : Option (Nat × Bool)) : execOp ρ { dst, op := .lookup 62 x y ok, type := ty, pos, after, guard } = (do pure (.value (← gLookup 62 (ρ x) (ρ y) ok))) := ex_lookup ..
@[go_sem ↓ high] theorem xu_62 (ρ : Operand → Value) (dst : Option Tmp) (x y z : Operand) (ty : TypeId) (pos : String) (after : Array Edge) (guard : Option (Nat × Bool)) : execOp ρ { dst, op := .mapUpdate 62 x y z, type := ty, pos, after, guard } = (do gMapUpdate 62 (ρ x) (ρ y) (ρ z); pure .skip) := ex_mapUpdate ..
@[go_sem ↓ high] theorem lk_62 (w : World) (r : Nat) (k : ByteArray) : (gLookup 62 (.map (some r)) (.string k) false).run Tryd.prog w = ofOpt ((mapAt ByteArray Int w r).map fun m => (.int .i64 ((mget m k).getD 0))) w (noLookup Tryd.prog 62 (.map (some r)) (.string k) false w) :=
  run_gLookup kl9 um62 zv62_3 w r k
@[go_sem ↓ high] theorem lo_62 (w : World) (r : Nat) (k : ByteArray) : (gLookup 62 (.map (some r)) (.string k) true).run Tryd.prog w = ofOpt ((mapAt ByteArray Int w r).map fun m => .tuple #[(.int .i64 ((mget m k).getD 0)), .bool (mget m k).isSome]) w (noLookup Tryd.prog 62 (.map (some r)) (.string k) true w) :=
  run_gLookup_ok kl9 um62 zv62_3 w r k
@[go_sem ↓ high] theorem ln_62 (w : World) (k : ByteArray) : (gLookup 62 (.map none) (.string k) false).run Tryd.prog w = .ok (.int .i64 (0 : Int)) w :=
  run_gLookup_nil kl9 um62 zv62_3 w k
@[go_sem ↓ high] theorem mu_62 (w : World) (r : Nat) (k : ByteArray) (v : Int) : (gMapUpdate 62 (.map (some r)) (.string k) (.int .i64 v)).run Tryd.prog w = okU ((mapAt ByteArray Int w r).isSome) (mput Tryd.prog 62 w r k v) (noUpdate Tryd.prog 62 (.map (some r)) (.string k) (.int .i64 v) w) :=
  run_gMapUpdate kl9 um62 w r k v
@[go_sem] theorem sz_mput_62 (w : World) (r : Nat) (k : ByteArray) (v : Int) (h : (mapAt ByteArray Int w r).isSome = true) : (mput Tryd.prog 62 w r k v).heap.size = w.heap.size := by
  obtain ⟨m, hm⟩ := Option.isSome_iff_exists.1 h; exact mput_size kl9 um62 hm k v

end Go.Proofs.YtgeimnknmljplaaDoor
/- What the arguments of this seat read as. Conditions: those named in each theorem. -/
namespace Go.Proofs.YtgeimnknmljplaaDoor
open Go Go.RowKit Go.Gv

theorem cz22 : Tryd.prog.cellsOf 22 = 1 := by kernel_rfl
theorem cz3 : Tryd.prog.cellsOf 3 = 1 := by kernel_rfl
theorem op3 (W : World) : Opens Tryd.prog W 3 I64 (fun x => FitI .i64 x.v) := opens_i64 (by kernel_rfl)
theorem op22 (W : World) : Opens Tryd.prog W 22 Hdr (SlOk W I64 (fun x => FitI .i64 x.v)) := opens_slice (e := 3) (by kernel_rfl) (cz3.trans rfl) (op3 W)
end Go.Proofs.YtgeimnknmljplaaDoor
/- Facts that the frames of all laws of this seat share. Conditions: none. -/
namespace Go.Proofs.YtgeimnknmljplaaDoor
open Go Go.RowKit Go.Gv
theorem ownK : ownKnob Tryd.prog.godebug = none := by kernel_rfl
theorem laidK : laidOutB Tryd.prog = true := by kernel_rfl
end Go.Proofs.YtgeimnknmljplaaDoor
/- The library's functions at this program: which is which; printed by the kit's lay-plain. -/
namespace Go.Proofs.YtgeimnknmljplaaDoor
open Go Go.Proofs
open Go.Shelf
def Tryd.split_ren : Go.Shelf.Ren := ⟨fun | 146 => 30 | 221 => 46 | 268 => 62 | 138 => 63 | 143 => 64 | 195 => 73 | 197 => 74 | 218 => 75 | 219 => 76 | 260 => 83 | 217 => 84 | 225 => 85 | 224 => 86 | 267 => 87 | 266 => 93 | 314 => 94 | n => n, fun | 9 => 9 | 31 => 48 | 3 => 3 | 4 => 4 | 0 => 0 | 105 => 121 | 21 => 21 | 5 => 5 | 46 => 91 | 119 => 135 | 139 => 138 | 138 => 137 | 146 => 139 | 51 => 106 | n => n, fun | 1 => 0 | 3 => 2 | 4 => 3 | n => n⟩
theorem Tryd.split : Go.Proofs.LaysM.n146 Tryd.prog Tryd.split_ren := {
  mixed := by kernel_rfl
  f138 := Tryd.func63.trans (congrArg some (by kernel_rfl))
  f143 := Tryd.func64.trans (congrArg some (by kernel_rfl))
  f146 := Tryd.func30.trans (congrArg some (by kernel_rfl))
  f195 := Tryd.func73.trans (congrArg some (by kernel_rfl))
  f197 := Tryd.func74.trans (congrArg some (by kernel_rfl))
  f217 := Tryd.func84.trans (congrArg some (by kernel_rfl))
  f218 := Tryd.func75.trans (congrArg some (by kernel_rfl))
  f219 := Tryd.func76.trans (congrArg some (by kernel_rfl))
  f221 := Tryd.func46.trans (congrArg some (by kernel_rfl))
  f224 := Tryd.func86.trans (congrArg some (by kernel_rfl))
  f225 := Tryd.func85.trans (congrArg some (by kernel_rfl))
  f260 := Tryd.func83.trans (congrArg some (by kernel_rfl))
  f266 := Tryd.func93.trans (congrArg some (by kernel_rfl))
  f267 := Tryd.func87.trans (congrArg some (by kernel_rfl))
  f268 := Tryd.func62.trans (congrArg some (by kernel_rfl))
  f314 := Tryd.func94.trans (congrArg some (by kernel_rfl))
  t0 := Tryd.underlying0
  a0 := Tryd.isAgg0
  z0 := Tryd.sizeOf0
  v0 := Tryd.zeroValue0
  t3 := Tryd.underlying3
  a3 := Tryd.isAgg3
  z3 := Tryd.sizeOf3
  v3 := Tryd.zeroValue3
  t4 := Tryd.underlying4
  a4 := Tryd.isAgg4
  z4 := Tryd.sizeOf4
  v4 := Tryd.zeroValue4
  t5 := Tryd.underlying5
  a5 := Tryd.isAgg5
  z5 := Tryd.sizeOf5
  v5 := Tryd.zeroValue5
  t9 := Tryd.underlying9
  a9 := Tryd.isAgg9
  z9 := Tryd.sizeOf9
  v9 := Tryd.zeroValue9
  t21 := Tryd.underlying21
  a21 := Tryd.isAgg21
  z21 := Tryd.sizeOf21
  v21 := Tryd.zeroValue21
  t31 := Tryd.underlying48
  a31 := Tryd.isAgg48
  z31 := Tryd.sizeOf48
  v31 := Tryd.zeroValue48
  t46 := Tryd.underlying91
  a46 := Tryd.isAgg91
  z46 := Tryd.sizeOf91
  v46 := Tryd.zeroValue91
  t51 := Tryd.underlying106
  a51 := Tryd.isAgg106
  z51 := Tryd.sizeOf106
  v51 := Tryd.zeroValue106
  t105 := Tryd.underlying121
  a105 := Tryd.isAgg121
  z105 := Tryd.sizeOf121
  v105 := Tryd.zeroValue121
  t119 := Tryd.underlying135
  a119 := Tryd.isAgg135
  z119 := Tryd.sizeOf135
  t138 := Tryd.underlying137
  a138 := Tryd.isAgg137
  z138 := Tryd.sizeOf137
  v138 := Tryd.zeroValue137
  t139 := Tryd.underlying138
  a139 := Tryd.isAgg138
  z139 := Tryd.sizeOf138
  v139 := Tryd.zeroValue138
  t146 := Tryd.underlying139
  a146 := Tryd.isAgg139
  z146 := Tryd.sizeOf139
  v146 := Tryd.zeroValue139
  g1 := by kernel_rfl
  g3 := by kernel_rfl
  g4 := by kernel_rfl
  i0 := by kernel_rfl
  i3 := by kernel_rfl
  i4 := by kernel_rfl
  i5 := by kernel_rfl
  i9 := by kernel_rfl
  i21 := by kernel_rfl
  i31 := by kernel_rfl
  i46 := by kernel_rfl
  i51 := by kernel_rfl
  i105 := by kernel_rfl
  i138 := by kernel_rfl
  i139 := by kernel_rfl
  i146 := by kernel_rfl
  m1 := by kernel_rfl
  s1_3 := fun w h => Go.Proofs.cell_of_shapedOpen_int (zero := #[.int .i64 0]) (t := 3) h (of_decide_eq_true (by kernel_rfl)) (by kernel_rfl) rfl (by kernel_rfl) (by kernel_rfl) Tryd.underlying3
  m3 := by kernel_rfl
  m4 := by kernel_rfl }
def Tryd.itoa_ren : Go.Shelf.Ren := ⟨fun | 171 => 31 | 243 => 47 | 246 => 65 | 283 => 77 | 284 => 78 | 285 => 79 | 286 => 80 | 129 => 59 | 317 => 88 | 318 => 89 | 319 => 90 | 320 => 91 | 337 => 95 | 338 => 96 | n => n, fun | 3 => 3 | 9 => 9 | 2 => 2 | 4 => 4 | 171 => 124 | 0 => 0 | 53 => 26 | 37 => 35 | 5 => 5 | 173 => 126 | 212 => 133 | 51 => 106 | 20 => 20 | 213 => 134 | 46 => 91 | 232 => 29 | 233 => 141 | n => n, fun | 17 => 1 | 18 => 4 | 19 => 5 | n => n⟩
theorem Tryd.itoa : Go.Proofs.LaysM.n171 Tryd.prog Tryd.itoa_ren := {
  mixed := by kernel_rfl
  f129 := Tryd.func59.trans (congrArg some (by kernel_rfl))
  f171 := Tryd.func31.trans (congrArg some (by kernel_rfl))
  f243 := Tryd.func47.trans (congrArg some (by kernel_rfl))
  f246 := Tryd.func65.trans (congrArg some (by kernel_rfl))
  f283 := Tryd.func77.trans (congrArg some (by kernel_rfl))
  f284 := Tryd.func78.trans (congrArg some (by kernel_rfl))
  f285 := Tryd.func79.trans (congrArg some (by kernel_rfl))
  f286 := Tryd.func80.trans (congrArg some (by kernel_rfl))
  f317 := Tryd.func88.trans (congrArg some (by kernel_rfl))
  f318 := Tryd.func89.trans (congrArg some (by kernel_rfl))
  f319 := Tryd.func90.trans (congrArg some (by kernel_rfl))
  f320 := Tryd.func91.trans (congrArg some (by kernel_rfl))
  f337 := Tryd.func95.trans (congrArg some (by kernel_rfl))
  f338 := Tryd.func96.trans (congrArg some (by kernel_rfl))
  t0 := Tryd.underlying0
  a0 := Tryd.isAgg0
  z0 := Tryd.sizeOf0
  v0 := Tryd.zeroValue0
  t2 := Tryd.underlying2
  a2 := Tryd.isAgg2
  z2 := Tryd.sizeOf2
  v2 := Tryd.zeroValue2
  t3 := Tryd.underlying3
  a3 := Tryd.isAgg3
  z3 := Tryd.sizeOf3
  v3 := Tryd.zeroValue3
  t4 := Tryd.underlying4
  a4 := Tryd.isAgg4
  z4 := Tryd.sizeOf4
  v4 := Tryd.zeroValue4
  t5 := Tryd.underlying5
  a5 := Tryd.isAgg5
  z5 := Tryd.sizeOf5
  v5 := Tryd.zeroValue5
  t9 := Tryd.underlying9
  a9 := Tryd.isAgg9
  z9 := Tryd.sizeOf9
  v9 := Tryd.zeroValue9
  t20 := Tryd.underlying20
  a20 := Tryd.isAgg20
  z20 := Tryd.sizeOf20
  v20 := Tryd.zeroValue20
  t37 := Tryd.underlying35
  a37 := Tryd.isAgg35
  z37 := Tryd.sizeOf35
  v37 := Tryd.zeroValue35
  t46 := Tryd.underlying91
  a46 := Tryd.isAgg91
  z46 := Tryd.sizeOf91
  v46 := Tryd.zeroValue91
  t51 := Tryd.underlying106
  a51 := Tryd.isAgg106
  z51 := Tryd.sizeOf106
  v51 := Tryd.zeroValue106
  t53 := Tryd.underlying26
  a53 := Tryd.isAgg26
  z53 := Tryd.sizeOf26
  v53 := Tryd.zeroValue26
  t171 := Tryd.underlying124
  a171 := Tryd.isAgg124
  z171 := Tryd.sizeOf124
  v171 := Tryd.zeroValue124
  t173 := Tryd.underlying126
  a173 := Tryd.isAgg126
  z173 := Tryd.sizeOf126
  v173 := Tryd.zeroValue126
  t212 := Tryd.underlying133
  a212 := Tryd.isAgg133
  z212 := Tryd.sizeOf133
  v212 := Tryd.zeroValue133
  t213 := Tryd.underlying134
  a213 := Tryd.isAgg134
  z213 := Tryd.sizeOf134
  t232 := Tryd.underlying29
  a232 := Tryd.isAgg29
  z232 := Tryd.sizeOf29
  v232 := Tryd.zeroValue29
  t233 := Tryd.underlying141
  a233 := Tryd.isAgg141
  z233 := Tryd.sizeOf141
  v233 := Tryd.zeroValue141
  g17 := by kernel_rfl
  g18 := by kernel_rfl
  g19 := by kernel_rfl
  i0 := by kernel_rfl
  i2 := by kernel_rfl
  i3 := by kernel_rfl
  i4 := by kernel_rfl
  i5 := by kernel_rfl
  i9 := by kernel_rfl
  i20 := by kernel_rfl
  i37 := by kernel_rfl
  i46 := by kernel_rfl
  i51 := by kernel_rfl
  i53 := by kernel_rfl
  i171 := by kernel_rfl
  i173 := by kernel_rfl
  i212 := by kernel_rfl
  i232 := by kernel_rfl
  i233 := by kernel_rfl
  m17 := by kernel_rfl
  m18 := by kernel_rfl
  m19 := by kernel_rfl }
end Go.Proofs.YtgeimnknmljplaaDoor
/- A region that leaves its order of evaluation open: operations that only look may come in any order. Conditions: those named in each theorem. -/
namespace Go.Gv
open Go Go.RowKit

/-! ### A region that draws its order: operations that only look come first, in whatever order; the rest comes in one forced order.
What looks must find the same in every world of a class (the worlds 'W z'); the rest must stay in the class. -/
section
variable {P : Program} {ops : Array Oper} {md : Region.Mode} {Q : Exit → Act → World → Prop} {ι : Type} {W : ι → World}

@[go_sem] def lookUpon (P : Program) (w : World) (v : Value) : Result Next → Prop
  | .ok (.value u) w' => w' = w ∧ u = v
  | .ok .skip w' => w' = w ∧ v = undef
  | .ok (.enter f args) w' => w' = w ∧ Calls P f args w (fun e w'' => e = .returned v ∧ ∃ m, w'' = w.drewN m)
  | _ => False
@[go_sem] def _root_.Go.Oper.looks (P : Program) (o : Oper) (a : Act) (W : ι → World) (next : Act → Prop) : Prop := ∃ v, (∀ z, lookUpon P (W z) v ((execOp a.eval o).run P (W z))) ∧ next (a.put o.dst v)

def YieldsL (P : Program) (ops : Array Oper) (W : ι → World) (o : Oper) (v : Value) (a : Act) : Prop :=
  (Region.wanted o (yielded ops a.tmps) = true ∧ ∀ z, lookUpon P (W z) v ((execOp a.eval o).run P (W z))) ∨ (Region.wanted o (yielded ops a.tmps) = false ∧ v = undef)
theorem YieldsL.of_same {o : Oper} {v : Value} {a a' : Act} (hy : YieldsL P ops W o v a) (he : execOp a'.eval o = execOp a.eval o)
    (hw : Region.wanted o (yielded ops a'.tmps) = Region.wanted o (yielded ops a.tmps)) : YieldsL P ops W o v a' := by
  unfold YieldsL at *
  rw [he, hw]
  exact hy
theorem YieldsL.wpOp {i : Nat} {o : Oper} {v : Value} {a : Act} {K : Act → World → Prop} (hi : ops[i]? = some o) (hy : YieldsL P ops W o v a) (z : ι) (h : ∀ m, K (a.put o.dst v) ((W z).drewN m)) : wpOp P ops Q i K a (W z) := by
  have h0 : K (a.put o.dst v) (W z) := h 0
  unfold Go.wpOp
  simp only [hi]
  rcases hy with ⟨hw, hv⟩ | ⟨hw, rfl⟩
  · simp only [hw, if_true]
    refine .inl ?_
    have hz := hv z
    unfold Oper.wp
    generalize (execOp a.eval o).run P (W z) = r at hz
    cases r with
    | ok n w' =>
      cases n <;> simp only [lookUpon] at hz <;> simp only [Oper.upon]
      case value u => obtain ⟨rfl, rfl⟩ := hz; exact h0
      case skip => obtain ⟨rfl, rfl⟩ := hz; exact h0
      case enter f args =>
        obtain ⟨rfl, hc⟩ := hz
        refine hc.mono fun e w'' ⟨he, m, hm⟩ => ?_
        subst he; subst hm; exact h m
    | halt x w' => simp only [lookUpon] at hz
  · simp only [hw, Bool.false_eq_true, if_false]; exact h0

theorem wpOp_putL {j : Nat} {oi oj : Oper} {v : Value} {w : World} (hj : ops[j]? = some oj) (hap : oi.apart ops oj = true)
    (hsi : ∀ cs b, oi.op ≠ .select cs b) (hsj : ∀ cs b, oj.op ≠ .select cs b)
    (hQ : ∀ c a w, Q (.panic c) (a.put oi.dst v) w → Q (.panic c) a w) {K : Act → World → Prop} {a : Act}
    (hy : YieldsL P ops W oi v a) (h : wpOp P ops Q j K (a.put oi.dst v) w) :
    wpOp P ops Q j (fun a' w' => YieldsL P ops W oi v a' ∧ K (a'.put oi.dst v) w') a w := by
  obtain ⟨h1, h2, h3⟩ := Oper.apart_spec hap
  have keep : ∀ (a : Act), YieldsL P ops W oi v a → ∀ u, YieldsL P ops W oi v (a.put oj.dst u) := fun a hy u =>
    hy.of_same (execOp_put oi hsi a oj.dst u h3) (wanted_put oi a oj.dst u h3)
  have keepD : ∀ d, YieldsL P ops W oi v { a with defers := d :: a.defers } := fun d => hy.of_same rfl rfl
  unfold Go.wpOp at *
  simp only [hj] at *
  rw [wanted_put oj a oi.dst v h1] at h
  split
  · rename_i hw
    simp only [hw, if_true] at h
    rcases h with h | ⟨hasks, hlets⟩
    case inr => exact .inr ⟨by unfold Oper.asks at *; rw [execOp_put oj hsj a oi.dst v h1] at hasks; exact hasks, hlets⟩
    refine .inl ?_
    unfold Oper.wp at *
    rw [execOp_put oj hsj a oi.dst v h1] at h
    generalize (execOp a.eval oj).run P w = r at *
    cases r with
    | ok n w' =>
      cases n <;> simp only [Oper.upon] at h ⊢
      case value u => exact ⟨keep a hy u, by rw [← Act.put_comm a v u h2]; exact h⟩
      case skip => exact ⟨keep a hy _, by rw [← Act.put_comm a v undef h2]; exact h⟩
      case defer d =>
        refine ⟨keep _ (keepD d) _, ?_⟩
        rw [← Act.put_comm _ v undef h2, ← Act.put_defers]
        exact h
      case enter f args =>
        refine Calls.mono h fun e w'' he => ?_
        cases e with
        | returned u => exact ⟨keep a hy u, by rw [← Act.put_comm a v u h2]; exact he⟩
        | panicked c => exact hQ _ _ _ he
        | outgrown => exact he
      case row row args => exact Rows.mono h fun u w'' he => ⟨keep a hy u, by rw [← Act.put_comm a v u h2]; exact he⟩
    | halt x w' =>
      cases x <;> simp only [Oper.upon] at h ⊢
      case panic u => exact hQ _ _ _ h
  · rename_i hw
    simp only [hw] at h
    exact ⟨keep a hy _, by rw [← Act.put_comm a v undef h2]; exact h⟩

/-- Whatever order is picked from here on, after whatever further draws; every world on the way is of the class. -/
def wpE (P : Program) (md : Region.Mode) (ops : Array Oper) (Q : Exit → Act → World → Prop) (W : ι → World) : Nat → Array Bool → Act → World → Prop
  | 0, listed, a, w => Region.ready md ops listed = [] ∧ ∀ n, Q .normal a (w.drewN n)
  | fuel + 1, listed, a, w =>
    (Region.ready md ops listed = [] → ∀ n, Q .normal a (w.drewN n)) ∧
    ∀ i ∈ Region.ready md ops listed, ∀ n, wpOp P ops Q i (fun a' w' => (∃ z, w' = W z) ∧ wpE P md ops Q W fuel (listed.setIfInBounds i true) a' w') a (w.drewN n)
theorem wpE_drew {fuel : Nat} {listed : Array Bool} {a : Act} {w : World} (h : wpE P md ops Q W fuel listed a w) (m : Nat) : wpE P md ops Q W fuel listed a (w.drewN m) := by
  cases fuel with
  | zero => exact ⟨h.1, fun n => by rw [World.drewN_drewN]; exact h.2 _⟩
  | succ f => exact ⟨fun h0 n => by rw [World.drewN_drewN]; exact h.1 h0 _, fun i hi n => by rw [World.drewN_drewN]; exact h.2 i hi _⟩
theorem wpAny_of_E : ∀ (fuel : Nat) (listed : Array Bool) (a : Act) (w : World), wpE P md ops Q W fuel listed a w → wpAny P md ops Q fuel listed a w
  | 0, _, _, _, h => ⟨h.1, h.2 0⟩
  | fuel + 1, _, _, _, h => ⟨fun h0 => h.1 h0 0, fun i hi => wpOp_mono (fun a' w' h' => wpAny_of_E fuel _ a' w' h'.2) (h.2 i hi 0)⟩

theorem wpE_first {i : Nat} {oi : Oper} {v : Value} (hcl : ∀ z n, ∃ z', (W z).drewN n = W z') (hi : ops[i]? = some oi) (hsel : ∀ (j : Nat) (o : Oper) cs b, ops[j]? = some o → o.op ≠ .select cs b)
    (hQ : ∀ c (a a' : Act) w, a.defers = a'.defers → Q (.panic c) a w → Q (.panic c) a' w) :
    ∀ (fuel : Nat) (listed : Array Bool) (a : Act) (z : ι),
      (∀ j oj, ops[j]? = some oj → j ≠ i → listed.getD j true = false → (∀ e ∈ oj.after, Region.binds md e = true → e.on ≠ i) → oi.apart ops oj = true) →
      i ∈ Region.ready md ops listed → YieldsL P ops W oi v a →
      wpE P md ops Q W fuel (listed.setIfInBounds i true) (a.put oi.dst v) (W z) → wpE P md ops Q W (fuel + 1) listed a (W z) := by
  intro fuel
  induction fuel with
  | zero =>
    intro listed a z _ hr hy H
    refine ⟨fun h => (by rw [h] at hr; cases hr), fun j hj n => ?_⟩
    by_cases hji : j = i
    · subst hji
      obtain ⟨z1, hz1⟩ := hcl z n
      rw [hz1]
      refine hy.wpOp hi z1 fun m => ⟨hcl z1 m, ?_⟩
      rw [← hz1]; exact wpE_drew (wpE_drew H n) m
    · have := ready_mono hj hji
      rw [H.1] at this
      cases this
  | succ fuel ih =>
    intro listed a z hfree hr hy H
    refine ⟨fun h => (by rw [h] at hr; cases hr), fun j hj n => ?_⟩
    by_cases hji : j = i
    · subst hji
      obtain ⟨z1, hz1⟩ := hcl z n
      rw [hz1]
      refine hy.wpOp hi z1 fun m => ⟨hcl z1 m, ?_⟩
      rw [← hz1]; exact wpE_drew (wpE_drew H n) m
    · have h1 := H.2 j (ready_mono hj hji) n
      obtain ⟨hjun, oj, hoj, hall⟩ := mem_ready.1 hj
      have hnot : ∀ e ∈ oj.after, Region.binds md e = true → e.on ≠ i := fun e he hb heq => by
        have h1 := hall e he hb
        have h0 := (mem_ready.1 hr).1
        rw [heq] at h1
        rcases Nat.lt_or_ge i listed.size with h' | h'
        · simp [h'] at h0 h1; rw [h0] at h1; cases h1
        · simp [Array.getElem?_eq_none h'] at h1
      have h2 := wpOp_putL hoj (hfree j oj hoj hji hjun hnot) (fun cs b => hsel i oi cs b hi) (fun cs b => hsel j oj cs b hoj) (fun c a w h => hQ c _ _ w (by cases oi.dst <;> rfl) h) hy h1
      have hfree' : ∀ k ok, ops[k]? = some ok → k ≠ i → (listed.setIfInBounds j true).getD k true = false →
          (∀ e ∈ ok.after, Region.binds md e = true → e.on ≠ i) → oi.apart ops ok = true := fun k ok hk hki hun hno => by
        refine hfree k ok hk hki ?_ hno
        by_cases hjk : j = k
        · subst hjk; exact hjun
        · rw [getD_set_ne true hjk] at hun; exact hun
      refine wpOp_mono (fun a' w' h3 => ⟨h3.2.1, ?_⟩) h2
      obtain ⟨hy', ⟨z2, hz2⟩, h4⟩ := h3
      rw [hz2] at h4 ⊢
      refine ih (listed.setIfInBounds j true) a' z2 hfree' (ready_mono hr (Ne.symm hji)) hy' ?_
      rw [Array.setIfInBounds_comm _ _ hji]
      exact h4

/-- The first part, as it is walked. -/
def wpLooks (P : Program) (ops : Array Oper) (W : ι → World) (K : Act → Prop) : List Oper → Act → Prop
  | [], a => K a
  | o :: rest, a => if Region.wanted o (yielded ops a.tmps) then o.looks P a W (wpLooks P ops W K rest) else wpLooks P ops W K rest (a.put o.dst undef)
/-- The second part, as it is walked. -/
def wpRest (P : Program) (ops : Array Oper) (Q : Exit → Act → World → Prop) (W : ι → World) : List Oper → Act → World → Prop
  | [], a, w => ∀ n, Q .normal a (w.drewN n)
  | o :: rest, a, w => ∀ n, if Region.wanted o (yielded ops a.tmps) then o.wp P a (w.drewN n) (fun a' w' => (∃ z, w' = W z) ∧ wpRest P ops Q W rest a' w') Q else (∃ z, w.drewN n = W z) ∧ wpRest P ops Q W rest (a.put o.dst undef) (w.drewN n)

def seqL (md : Region.Mode) (ops : Array Oper) : List Nat → Array Bool → Bool
  | [], listed => (Region.ready md ops listed).isEmpty
  | t :: tl, listed => decide (Region.ready md ops listed = [t]) && seqL md ops tl (listed.setIfInBounds t true)
def permB (md : Region.Mode) (ops : Array Oper) (tl : List Nat) : List Nat → Array Bool → Bool
  | [], listed => seqL md ops tl listed
  | i :: hd, listed => (Region.ready md ops listed).contains i && Region.free md ops listed i && permB md ops tl hd (listed.setIfInBounds i true)

theorem wpE_of_rest : ∀ (tl : List Nat) (l : List Oper) (listed : Array Bool) (a : Act) (w : World), tl.mapM (fun i => ops[i]?) = some l → seqL md ops tl listed = true → wpRest P ops Q W l a w → wpE P md ops Q W tl.length listed a w
  | [], l, listed, a, w, hl, hB, h => by
    simp at hl; subst hl
    exact ⟨by simpa [seqL] using hB, h⟩
  | t :: tl, l, listed, a, w, hl, hB, h => by
    simp only [List.mapM_cons, Option.bind_eq_bind, Option.pure_def] at hl
    cases ht : ops[t]? with
    | none => simp [ht] at hl
    | some o =>
      cases hr : tl.mapM (fun i => ops[i]?) with
      | none => simp [ht, hr] at hl
      | some l' =>
        simp [ht, hr] at hl
        subst hl
        simp only [seqL, Bool.and_eq_true, decide_eq_true_eq] at hB
        refine ⟨fun h1 => (by rw [hB.1] at h1; cases h1), fun i hi n => ?_⟩
        rw [hB.1] at hi
        obtain rfl : i = t := by simpa using hi
        have hn := h n
        unfold Go.wpOp
        simp only [ht]
        split
        · rename_i hw
          rw [if_pos hw] at hn
          exact .inl (Oper.wp_mono (fun a' w' h' => ⟨h'.1, wpE_of_rest tl l' _ a' w' hr hB.2 h'.2⟩) hn)
        · rename_i hw
          rw [if_neg hw] at hn
          exact ⟨hn.1, wpE_of_rest tl l' _ _ _ hr hB.2 hn.2⟩
theorem wpE_of_looks (hcl : ∀ z n, ∃ z', (W z).drewN n = W z') (hs : Region.noSelect ops = true) (hQ : ∀ c (a a' : Act) w, a.defers = a'.defers → Q (.panic c) a w → Q (.panic c) a' w) (tl : List Nat) (lt : List Oper) (ht : tl.mapM (fun i => ops[i]?) = some lt) (z : ι) :
    ∀ (hd : List Nat) (lh : List Oper) (listed : Array Bool) (a : Act), hd.mapM (fun i => ops[i]?) = some lh → permB md ops tl hd listed = true →
    wpLooks P ops W (fun a' => wpRest P ops Q W lt a' (W z)) lh a → wpE P md ops Q W (hd.length + tl.length) listed a (W z)
  | [], lh, listed, a, hl, hB, h => by
    simp at hl; subst hl
    simpa using wpE_of_rest tl lt listed a _ ht hB h
  | i :: hd, lh, listed, a, hl, hB, h => by
    simp only [List.mapM_cons, Option.bind_eq_bind, Option.pure_def] at hl
    cases hi : ops[i]? with
    | none => simp [hi] at hl
    | some o =>
      cases hr : hd.mapM (fun i => ops[i]?) with
      | none => simp [hi, hr] at hl
      | some l' =>
        simp [hi, hr] at hl
        subst hl
        simp only [permB, Bool.and_eq_true] at hB
        have hrd : i ∈ Region.ready md ops listed := by simpa using hB.1.1
        rw [show (i :: hd).length + tl.length = (hd.length + tl.length) + 1 by simp; omega]
        unfold wpLooks at h
        split at h
        · rename_i hw
          obtain ⟨v, hv, hk⟩ := h
          exact wpE_first hcl hi (Region.noSelect_spec hs) hQ _ listed a z (Region.free_spec hi hB.1.2) hrd (.inl ⟨hw, hv⟩) (wpE_of_looks hcl hs hQ tl lt ht z hd l' _ _ hr hB.2 hk)
        · rename_i hw
          exact wpE_first hcl hi (Region.noSelect_spec hs) hQ _ listed a z (Region.free_spec hi hB.1.2) hrd (.inr ⟨by simpa using hw, rfl⟩) (wpE_of_looks hcl hs hQ tl lt ht z hd l' _ _ hr hB.2 h)

/-- The whole: hd, tl: the operations' numbers. -/
theorem wp_region_looks {id : Nat} {a : Act} {w : World} {l lh lt : List Oper} (hd tl : List Nat) (W : ι → World) (hcl : ∀ z n, ∃ z', (W z).drewN n = W z') (z : ι) (hz : w.drew = W z)
    (hm : P.follows .mixedOrders = true) (hh : hd.mapM (fun i => l.toArray[i]?) = some lh) (ht : tl.mapM (fun i => l.toArray[i]?) = some lt)
    (hB : (Region.noSelect l.toArray && permB .any l.toArray tl hd (Array.replicate l.toArray.size false) && (hd.length + tl.length == l.toArray.size)) = true)
    (hQ : ∀ c (a a' : Act) w, a.defers = a'.defers → Q (.panic c) a w → Q (.panic c) a' w)
    (h : wpLooks P l.toArray W (fun a' => wpRest P l.toArray Q W lt a' w.drew) lh a) : (Code.region id l.toArray true).wp P Q a w := by
  simp only [Bool.and_eq_true, beq_iff_eq] at hB
  refine wp_region_any hm ?_
  rw [hz] at h
  have H := wpE_of_looks hcl hB.1.1 hQ tl lt ht z hd lh _ a hh hB.1.2 h
  rw [hB.2, ← hz] at H
  exact wpAny_of_E _ _ _ _ H

/-- A class of worlds as a family, with its shape hidden. -/
theorem classFam (C : World → Prop) {w : World} (h : C w) : ∃ (ι : Type) (W : ι → World), Nonempty ι ∧ (∀ z, C (W z)) ∧ ∀ w', C w' → ∃ z, w' = W z :=
  ⟨{w' // C w'}, Subtype.val, ⟨⟨w, h⟩⟩, fun z => z.2, fun w' h => ⟨⟨w', h⟩, rfl⟩⟩
theorem wpLooks_nil {K : Act → Prop} {a : Act} (h : K a) : wpLooks P ops W K [] a := h
theorem wpLooks_step {K0 : Act → Prop} {a : Act} {o : Oper} {rest : List Oper}
    (h : ∀ K : Act → Prop, (∀ a, wpLooks P ops W K0 rest a → K a) → if Region.wanted o (yielded ops a.tmps) then o.looks P a W K else K (a.put o.dst undef)) : wpLooks P ops W K0 (o :: rest) a :=
  h _ (fun _ h => h)
theorem wpRest_nil {a : Act} {w : World} (h : ∀ n, Q .normal a (w.drewN n)) : wpRest P ops Q W [] a w := h
theorem wpRest_step {a : Act} {w : World} {o : Oper} {rest : List Oper} (hg : o.guard = none)
    (h : ∀ n, ∀ K : Act → World → Prop, (∀ a w, (∃ z, w = W z) → wpRest P ops Q W rest a w → K a w) → o.wp P a (w.drewN n) K Q) : wpRest P ops Q W (o :: rest) a w := fun n => by
  rw [if_pos (by simp [Region.wanted, hg])]
  exact h n _ (fun _ _ h1 h2 => ⟨h1, h2⟩)
theorem eval_drewN (w : World) (n : Nat) : (w.drewN n).heap = w.heap := rfl
theorem rest_build1 {α : Type} [Enc α] {t e : TypeId} {by8 : Nat} {a : Act} {w : World} {o : Oper} {rest : List Oper} (hg : o.guard = none) (y : Operand) (ho : o.op = .buildSlice t 1 #[(0, y)]) (E : ElemI P t e α by8) (hsmall : Enc.n α ≤ 16777216) (x : α)
    (hy : a.eval y = .agg (Enc.enc x).toArray) (hcls : ∀ n, ∃ z, (w.drewN n).alloc (.cells (Enc.enc x).toArray e) = W z)
    (h : ∀ n, wpRest P ops Q W rest (a.put o.dst (.slice (some ⟨w.heap.size, 0, none⟩) 1 1)) ((w.drewN n).alloc (.cells (Enc.enc x).toArray e))) : wpRest P ops Q W (o :: rest) a w :=
  wpRest_step hg fun n K hK => by
    have := run_buildSlice_one E hsmall x (w.drewN n)
    unfold gBuildSlice at this
    unfold Oper.wp execOp
    simp only [ho, Sem.run_bind, List.map_toArray, List.map_cons, List.map_nil, hy]
    rw [this]
    exact hK _ _ (hcls n) (h n)
theorem rest_append_S {α : Type} [Enc α] {t e : TypeId} {by8 base B : Nat} {xs ys : List α} {v : Value} {a : Act} {w : World} {o : Oper} {rest : List Oper} (hg : o.guard = none) (s x : Operand)
    (ho : o.op = .call { callee := .builtin .append, args := #[s, x], argTypes := #[t, t] }) (E : ElemI P t e α by8)
    (hs : a.eval s = v) (hown : OwnS w base e v xs) {A : Option Addr} {m c : Nat} (hx : a.eval x = .slice A m c) (hr : Sl α w B A m ys) (h63 : xs.length + m ≤ maxLen) (hbytes : (xs.length + m) * by8 ≤ 140737488355328) (hbase : base ≤ w.heap.size)
    (hcls : ∀ n w', (w.drewN n).grownBy w' v.ownBlock → ∃ z, w' = W z)
    (h : ∀ n v' w', OwnS w' base e v' (xs ++ ys) → (w.drewN n).grownBy w' v.ownBlock → (v'.ownBlock = v.ownBlock ∨ v'.ownBlock = some w.heap.size) → wpRest P ops Q W rest (a.put o.dst v') w') : wpRest P ops Q W (o :: rest) a w :=
  wpRest_step hg fun n _K hK => wp_append_S s x t ho E hs (hown.drewN n) hx (hr.drewN_ n) h63 hbytes hbase fun v' w' h2 h3 h4 => hK _ _ (hcls n w' h3) (h n v' w' h2 h3 h4)
theorem rest_assign {a : Act} {w : World} {o : Oper} {rest : List Oper} (hg : o.guard = none) (x : Operand) (ho : o.op = .assign x) (hcls : ∀ n, ∃ z, w.drewN n = W z)
    (h : ∀ n, wpRest P ops Q W rest (a.put o.dst (a.eval x)) (w.drewN n)) : wpRest P ops Q W (o :: rest) a w :=
  wpRest_step hg fun n K hK => by
    unfold Oper.wp execOp
    simp only [ho, Sem.run_pure]
    exact hK _ _ (hcls n) (h n)
theorem rest_value {a : Act} {w : World} {o : Oper} {rest : List Oper} (hg : o.guard = none) (v : Value) (w1 : Nat → World) (hr : ∀ n, (execOp a.eval o).run P (w.drewN n) = .ok (.value v) (w1 n)) (hcls : ∀ n, ∃ z, w1 n = W z)
    (h : ∀ n, wpRest P ops Q W rest (a.put o.dst v) (w1 n)) : wpRest P ops Q W (o :: rest) a w :=
  wpRest_step hg fun n K hK => by
    unfold Oper.wp
    rw [hr n]
    exact hK _ _ (hcls n) (h n)
theorem rest_skip {a : Act} {w : World} {o : Oper} {rest : List Oper} (hg : o.guard = none) (w1 : Nat → World) (hr : ∀ n, (execOp a.eval o).run P (w.drewN n) = .ok .skip (w1 n)) (hcls : ∀ n, ∃ z, w1 n = W z)
    (h : ∀ n, wpRest P ops Q W rest (a.put o.dst undef) (w1 n)) : wpRest P ops Q W (o :: rest) a w :=
  wpRest_step hg fun n K hK => by
    unfold Oper.wp
    rw [hr n]
    exact hK _ _ (hcls n) (h n)
theorem rest_call {a : Act} {w : World} {o : Oper} {rest : List Oper} (hg : o.guard = none) (f : FuncId) (args : Array Value) (R : Value → World → Prop) (hr : ∀ n, (execOp a.eval o).run P (w.drewN n) = .ok (.enter f args) (w.drewN n)) (hc : ∀ n, Calls P f args (w.drewN n) fun e w' => ∃ v, e = .returned v ∧ R v w') (hcls : ∀ v w', R v w' → ∃ z, w' = W z)
    (h : ∀ v w', R v w' → wpRest P ops Q W rest (a.put o.dst v) w') : wpRest P ops Q W (o :: rest) a w :=
  wpRest_step hg fun n K hK => by
    unfold Oper.wp
    rw [hr n]
    refine (hc n).mono fun e w' ⟨v, he, hR⟩ => ?_
    subst he
    exact hK _ _ (hcls v w' hR) (h v w' hR)
theorem putCells_drewN (w : World) (a : Addr) (cs : List Value) (n : Nat) : World.putCells (w.drewN n) a cs = (World.putCells w a cs).drewN n := by
  unfold World.putCells
  have : ∀ (cs : List Value) (i : Nat) (w : World), World.putFrom (w.drewN n) a i cs = (World.putFrom w a i cs).drewN n := by
    intro cs
    induction cs with
    | nil => intro i w; rfl
    | cons v vs ih => intro i w; exact ih _ (w.setCell (a.add i) v)
  exact this cs 0 w
/-- A new variable of a struct's type, and the value stored into it. -/
theorem rest_new {α : Type} [Enc α] {t : TypeId} {a : Act} {w : World} {o1 o2 : Oper} {rest : List Oper} (hg1 : o1.guard = none) (hg2 : o2.guard = none) (x y : Operand) (ho1 : o1.op = .alloc t) (ho2 : o2.op = .store t x y) (z u : α)
    (hal : ∀ w, (gAlloc t).run P w = .ok (.pointer (some ⟨w.heap.size, 0, none⟩)) (w.alloc (.cells (Enc.enc z).toArray t))) (ha : sizeT P t = Enc.n α)
    (hx : (a.put o1.dst (.pointer (some ⟨w.heap.size, 0, none⟩))).eval x = .pointer (some ⟨w.heap.size, 0, none⟩)) (hy : (a.put o1.dst (.pointer (some ⟨w.heap.size, 0, none⟩))).eval y = .agg (Enc.enc u).toArray)
    (hcls : ∀ n m (v : α), ∃ zz, ((w.drewN n).alloc (.cells (Enc.enc v).toArray t)).drewN m = W zz)
    (h : ∀ n m, wpRest P ops Q W rest ((a.put o1.dst (.pointer (some ⟨w.heap.size, 0, none⟩))).put o2.dst undef) (((w.drewN n).alloc (.cells (Enc.enc u).toArray t)).drewN m)) : wpRest P ops Q W (o1 :: o2 :: rest) a w := by
  refine rest_value hg1 (.pointer (some ⟨w.heap.size, 0, none⟩)) (fun n => (w.drewN n).alloc (.cells (Enc.enc z).toArray t)) (fun n => ?_) (fun n => hcls n 0 z) fun n => ?_
  · have := hal (w.drewN n)
    unfold gAlloc at this
    unfold execOp
    simp only [ho1, Sem.run_bind]
    rw [this]; rfl
  · refine rest_skip hg2 (fun m => ((w.drewN n).alloc (.cells (Enc.enc u).toArray t)).drewN m) (fun m => ?_) (fun m => hcls n m u) fun m => h n m
    have hst := run_gStore (P := P) (t := t) (w := ((w.drewN n).alloc (.cells (Enc.enc z).toArray t)).drewN m) (a := ⟨w.heap.size, 0, none⟩) ha u (by
      rw [get?_drewN]
      have := get?_new (w := w.drewN n) t z
      exact Option.isSome_iff_exists.2 ⟨z, this⟩) (by rw [blkFree_drewN]; exact blkFree_new _ _ rfl)
    rw [putCells_drewN, show World.putCells ((w.drewN n).alloc (.cells (Enc.enc z).toArray t)) ⟨w.heap.size, 0, none⟩ (Enc.enc u) = (w.drewN n).alloc (.cells (Enc.enc u).toArray t) from putCells_top (w := w.drewN n) u z rfl] at hst
    unfold gStore at hst
    unfold execOp
    simp only [ho2, Sem.run_bind, hx, hy]
    rw [hst]; rfl
end
end Go.Gv
/- Regions that leave their order open, phase by phase; facts carried from world to world. Conditions: those named in each theorem. -/
namespace Go.Gv
open Go Go.RowKit

section
variable {P : Program} {ops : Array Oper} {md : Region.Mode} {Q : Exit → Act → World → Prop} {ι ι' : Type} {W : ι → World} {W' : ι' → World}

/-- A narrower class of worlds serves too. -/
theorem wpE_sub (hs : ∀ z', ∃ z, W' z' = W z) : ∀ (fuel : Nat) (listed : Array Bool) (a : Act) (w : World), wpE P md ops Q W' fuel listed a w → wpE P md ops Q W fuel listed a w
  | 0, _, _, _, h => h
  | fuel + 1, _, _, _, h => ⟨h.1, fun i hi n => wpOp_mono (fun a' w' h' => ⟨by
      obtain ⟨⟨z', e⟩, _⟩ := h'
      obtain ⟨z, e'⟩ := hs z'
      exact ⟨z, e.trans e'⟩, wpE_sub hs fuel _ a' w' h'.2⟩) (h.2 i hi n)⟩
def setAll (listed : Array Bool) : List Nat → Array Bool
  | [] => listed
  | i :: hd => setAll (listed.setIfInBounds i true) hd
def permH (md : Region.Mode) (ops : Array Oper) : List Nat → Array Bool → Bool
  | [], _ => true
  | i :: hd, listed => (Region.ready md ops listed).contains i && Region.free md ops listed i && permH md ops hd (listed.setIfInBounds i true)

/-- What looks comes first. -/
theorem wpE_looks (hcl : ∀ z n, ∃ z', (W z).drewN n = W z') (hs : Region.noSelect ops = true) (hQ : ∀ c (a a' : Act) w, a.defers = a'.defers → Q (.panic c) a w → Q (.panic c) a' w) (fuel : Nat) (z : ι) :
    ∀ (hd : List Nat) (lh : List Oper) (listed : Array Bool) (a : Act), hd.mapM (fun i => ops[i]?) = some lh → permH md ops hd listed = true →
    wpLooks P ops W (fun a' => wpE P md ops Q W fuel (setAll listed hd) a' (W z)) lh a → wpE P md ops Q W (hd.length + fuel) listed a (W z)
  | [], lh, listed, a, hl, _, h => by
    simp at hl; subst hl
    have e : ([] : List Nat).length + fuel = fuel := by simp
    rw [e]; exact h
  | i :: hd, lh, listed, a, hl, hB, h => by
    simp only [List.mapM_cons, Option.bind_eq_bind, Option.pure_def] at hl
    cases hi : ops[i]? with
    | none => simp [hi] at hl
    | some o =>
      cases hr : hd.mapM (fun i => ops[i]?) with
      | none => simp [hi, hr] at hl
      | some l' =>
        simp [hi, hr] at hl
        subst hl
        simp only [permH, Bool.and_eq_true] at hB
        have hrd : i ∈ Region.ready md ops listed := by simpa using hB.1.1
        rw [show (i :: hd).length + fuel = (hd.length + fuel) + 1 by simp; omega]
        unfold wpLooks at h
        split at h
        · rename_i hw
          obtain ⟨v, hv, hk⟩ := h
          exact wpE_first hcl hi (Region.noSelect_spec hs) hQ _ listed a z (Region.free_spec hi hB.1.2) hrd (.inl ⟨hw, hv⟩) (wpE_looks hcl hs hQ fuel z hd l' _ _ hr hB.2 hk)
        · rename_i hw
          exact wpE_first hcl hi (Region.noSelect_spec hs) hQ _ listed a z (Region.free_spec hi hB.1.2) hrd (.inr ⟨by simpa using hw, rfl⟩) (wpE_looks hcl hs hQ fuel z hd l' _ _ hr hB.2 h)

theorem wpE_looks' {n : Nat} {lh : List Oper} {listed : Array Bool} {a : Act} (fuel : Nat) (hd : List Nat) (hn : n = hd.length + fuel) (hcl : ∀ z n, ∃ z', (W z).drewN n = W z') (hs : Region.noSelect ops = true) (hQ : ∀ c (a a' : Act) w, a.defers = a'.defers → Q (.panic c) a w → Q (.panic c) a' w) (z : ι)
    (hl : hd.mapM (fun i => ops[i]?) = some lh) (hB : permH md ops hd listed = true) (h : wpLooks P ops W (fun a' => wpE P md ops Q W fuel (setAll listed hd) a' (W z)) lh a) : wpE P md ops Q W n listed a (W z) := by
  subst hn; exact wpE_looks hcl hs hQ fuel z hd lh listed a hl hB h

/-- One operation alone is ready. -/
theorem wpE_force {fuel : Nat} {listed : Array Bool} {a : Act} {w : World} (t : Nat) (o : Oper) (ho : ops[t]? = some o) (hr : (Region.ready md ops listed == [t]) = true) (hg : o.guard = none)
    (h : ∀ n, ∀ K : Act → World → Prop, (∀ a' w', (∃ z, w' = W z) → wpE P md ops Q W fuel (listed.setIfInBounds t true) a' w' → K a' w') → o.wp P a (w.drewN n) K Q) : wpE P md ops Q W (fuel + 1) listed a w := by
  have hr' : Region.ready md ops listed = [t] := by simpa using hr
  refine ⟨fun h0 => (by rw [hr'] at h0; cases h0), fun i hi n => ?_⟩
  rw [hr'] at hi
  obtain rfl : i = t := by simpa using hi
  unfold Go.wpOp
  simp only [ho]
  rw [if_pos (by simp [Region.wanted, hg])]
  exact .inl (h n _ fun a' w' h1 h2 => ⟨h1, h2⟩)
theorem wpE_end {listed : Array Bool} {a : Act} {w : World} (hr : (Region.ready md ops listed).isEmpty = true) (h : ∀ n, Q .normal a (w.drewN n)) : ∀ fuel, wpE P md ops Q W fuel listed a w
  | 0 => ⟨by simpa using hr, h⟩
  | _ + 1 => ⟨fun _ => h, fun i hi => by
      have : Region.ready md ops listed = [] := by simpa using hr
      rw [this] at hi; cases hi⟩

/-- A region's start: the class is all worlds above block B as they are in w0. -/
theorem wp_region_E {id : Nat} {a : Act} {w : World} {l : List Oper} (C : World → Prop) (hC : C w.drew) (hm : P.follows .mixedOrders = true)
    (h : ∀ (ι : Type) (W : ι → World) (z0 : ι), w.drew = W z0 → Hid (∀ z, C (W z)) → Hid (∀ w', C w' → ∃ z, w' = W z) → wpE P .any l.toArray Q W l.toArray.size (Array.replicate l.toArray.size false) a (W z0)) : (Code.region id l.toArray true).wp P Q a w := by
  obtain ⟨ι, W, _, hW, hWs⟩ := classFam C hC
  obtain ⟨z0, hz⟩ := hWs _ hC
  have := h ι W z0 hz (Lib.hid hW) (Lib.hid hWs)
  rw [← hz] at this
  exact wp_region_any hm (wpAny_of_E _ _ _ _ this)
/-- The class narrowed in the midst of a region. -/
theorem wpE_class {fuel : Nat} {listed : Array Bool} {a : Act} {w : World} (C : World → Prop) (hC : C w) (hs : ∀ w', C w' → ∃ z, w' = W z)
    (h : ∀ (ι : Type) (W' : ι → World) (z0 : ι), w = W' z0 → Hid (∀ z, C (W' z)) → Hid (∀ w', C w' → ∃ z, w' = W' z) → wpE P md ops Q W' fuel listed a (W' z0)) : wpE P md ops Q W fuel listed a w := by
  obtain ⟨ι, W', _, hW, hWs⟩ := classFam C hC
  obtain ⟨z0, hz⟩ := hWs _ hC
  have := h ι W' z0 hz (Lib.hid hW) (Lib.hid hWs)
  rw [← hz] at this
  refine wpE_sub (fun z' => ?_) _ _ _ _ this
  obtain ⟨z, e⟩ := hs _ (hW z')
  exact ⟨z, e⟩

/-! Forced operations of the common kinds. -/
section
variable {fuel : Nat} {listed : Array Bool} {a : Act} {w : World} (t : Nat) (o : Oper) (ho : ops[t]? = some o) (hr : (Region.ready md ops listed == [t]) = true) (hg : o.guard = none)
include ho hr hg
theorem wpE_value (v : Value) (w1 : Nat → World) (hx : ∀ n, (execOp a.eval o).run P (w.drewN n) = .ok (.value v) (w1 n)) (hcls : ∀ n, ∃ z, w1 n = W z)
    (h : ∀ n, wpE P md ops Q W fuel (listed.setIfInBounds t true) (a.put o.dst v) (w1 n)) : wpE P md ops Q W (fuel + 1) listed a w :=
  wpE_force t o ho hr hg fun n K hK => by
    unfold Oper.wp
    rw [hx n]
    exact hK _ _ (hcls n) (h n)
theorem wpE_skip (w1 : Nat → World) (hx : ∀ n, (execOp a.eval o).run P (w.drewN n) = .ok .skip (w1 n)) (hcls : ∀ n, ∃ z, w1 n = W z)
    (h : ∀ n, wpE P md ops Q W fuel (listed.setIfInBounds t true) (a.put o.dst undef) (w1 n)) : wpE P md ops Q W (fuel + 1) listed a w :=
  wpE_force t o ho hr hg fun n K hK => by
    unfold Oper.wp
    rw [hx n]
    exact hK _ _ (hcls n) (h n)
theorem wpE_call (f : FuncId) (args : Array Value) (R : Value → World → Prop) (hx : ∀ n, (execOp a.eval o).run P (w.drewN n) = .ok (.enter f args) (w.drewN n)) (hc : ∀ n, Calls P f args (w.drewN n) fun e w' => ∃ v, e = .returned v ∧ R v w') (hcls : ∀ v w', R v w' → ∃ z, w' = W z)
    (h : ∀ v w', R v w' → wpE P md ops Q W fuel (listed.setIfInBounds t true) (a.put o.dst v) w') : wpE P md ops Q W (fuel + 1) listed a w :=
  wpE_force t o ho hr hg fun n K hK => by
    unfold Oper.wp
    rw [hx n]
    refine (hc n).mono fun e w' ⟨v, he, hR⟩ => ?_
    subst he
    exact hK _ _ (hcls v w' hR) (h v w' hR)
theorem wpE_assign (x : Operand) (hop : o.op = .assign x) (hcls : ∀ n, ∃ z, w.drewN n = W z)
    (h : ∀ n, wpE P md ops Q W fuel (listed.setIfInBounds t true) (a.put o.dst (a.eval x)) (w.drewN n)) : wpE P md ops Q W (fuel + 1) listed a w :=
  wpE_value t o ho hr hg (a.eval x) (fun n => w.drewN n) (fun n => by unfold execOp; simp only [hop, Sem.run_pure]) hcls h
theorem wpE_build1 {α : Type} [Enc α] {ts e : TypeId} {by8 : Nat} (y : Operand) (hop : o.op = .buildSlice ts 1 #[(0, y)]) (E : ElemI P ts e α by8) (hsmall : Enc.n α ≤ 16777216) (x : α)
    (hy : a.eval y = .agg (Enc.enc x).toArray) (hcls : ∀ n, ∃ z, (w.drewN n).alloc (.cells (Enc.enc x).toArray e) = W z)
    (h : ∀ n, wpE P md ops Q W fuel (listed.setIfInBounds t true) (a.put o.dst (.slice (some ⟨w.heap.size, 0, none⟩) 1 1)) ((w.drewN n).alloc (.cells (Enc.enc x).toArray e))) : wpE P md ops Q W (fuel + 1) listed a w :=
  wpE_value t o ho hr hg _ (fun n => (w.drewN n).alloc (.cells (Enc.enc x).toArray e)) (fun n => by
    have := run_buildSlice_one E hsmall x (w.drewN n)
    unfold gBuildSlice at this
    unfold execOp
    simp only [hop, Sem.run_bind, List.map_toArray, List.map_cons, List.map_nil, hy]
    rw [this]; rfl) hcls h
theorem wpE_append {α : Type} [Enc α] {ts e : TypeId} {by8 base B : Nat} {xs ys : List α} {v : Value} (s x : Operand)
    (hop : o.op = .call { callee := .builtin .append, args := #[s, x], argTypes := #[ts, ts] }) (E : ElemI P ts e α by8)
    (hs : a.eval s = v) (hown : OwnS w base e v xs) {A : Option Addr} {m c : Nat} (hx : a.eval x = .slice A m c) (hsl : Sl α w B A m ys) (h63 : xs.length + m ≤ maxLen) (hbytes : (xs.length + m) * by8 ≤ 140737488355328) (hbase : base ≤ w.heap.size)
    (hcls : ∀ n w', (w.drewN n).grownBy w' v.ownBlock → ∃ z, w' = W z)
    (h : ∀ n v' w', OwnS w' base e v' (xs ++ ys) → (w.drewN n).grownBy w' v.ownBlock → (v'.ownBlock = v.ownBlock ∨ v'.ownBlock = some w.heap.size) → wpE P md ops Q W fuel (listed.setIfInBounds t true) (a.put o.dst v') w') : wpE P md ops Q W (fuel + 1) listed a w :=
  wpE_force t o ho hr hg fun n _K hK => wp_append_S s x ts hop E hs (hown.drewN n) hx (hsl.drewN_ n) h63 hbytes hbase fun v' w' h2 h3 h4 => hK _ _ (hcls n w' h3) (h n v' w' h2 h3 h4)
end
end

/-! ### Facts carried from one world to the next -/
/-- All that there was in w0 is there in w. -/
def Bel (w0 w : World) : Prop := Below w0.heap.size w0 w
theorem Bel.refl (w : World) : Bel w w := Below.refl _ _
theorem Bel.step {w0 w w' : World} (h : Bel w0 w) (hb : Below w.heap.size w w') : Bel w0 w' := Below.trans h (hb.mono h.size)
theorem Bel.trans {w0 w w' : World} (h : Bel w0 w) (hb : Bel w w') : Bel w0 w' := h.step hb
theorem Bel.alloc {w0 w : World} (h : Bel w0 w) (o : Obj) : Bel w0 (w.alloc o) := Below.alloc h h.size o
theorem Bel.drew {w0 w : World} (h : Bel w0 w) : Bel w0 w.drew := Below.drew h
theorem Bel.drewN {w0 w : World} (h : Bel w0 w) (n : Nat) : Bel w0 (w.drewN n) := bdN h n
theorem Bel.size {w0 w : World} (h : Bel w0 w) : w0.heap.size ≤ w.heap.size := Below.size h
theorem Bel.grown {w0 w w' : World} {row : Option Nat} (h : Bel w0 w) (hg : w.grownBy w' row) (hr : ∀ k, row = some k → w0.heap.size ≤ k) : Bel w0 w' := Below.grown h hg h.size hr
theorem Bel.setCell {w0 w : World} (h : Bel w0 w) {p : Addr} (hp : w0.heap.size ≤ p.block) (u : Value) : Bel w0 (w.setCell p u) := Below.setCell h hp u
theorem Bel.appS {α : Type} [Enc α] {w0 w w' : World} {base : Nat} {e : TypeId} {v : Value} {xs : List α} (h : Bel w0 w) (hg : w.grownBy w' v.ownBlock) (hown : OwnS w base e v xs) (hb : w0.heap.size ≤ base) : Bel w0 w' :=
  Gv.Below.appS h hg hown hb h.size
theorem Sl.stepB {α : Type} [Enc α] {w w' : World} {A : Option Addr} {n : Nat} {xs : List α} (h : Sl α w w.heap.size A n xs) (hb : Bel w w') : Sl α w' w'.heap.size A n xs := (h.below hb).more hb.size
theorem OwnS.step {α : Type} [Enc α] {w w' : World} {base : Nat} {e : TypeId} {v : Value} {xs : List α} (h : OwnS w base e v xs) (hb : Below w.heap.size w w') : OwnS w' base e v xs := h.below hb (Nat.le_refl _)
end Go.Gv
/- Regions that leave their order open, phase by phase, beside calls that make memory. Conditions: those named in each theorem. -/
namespace Go.Gv
open Go Go.RowKit

/-! G w w': what may come between two operations of the region (draws, new blocks ..). An operation named in T may do more; it waits for all that looks. -/
section
variable {P : Program} {ops : Array Oper} {md : Region.Mode} {Q : Exit → Act → World → Prop} {G : World → World → Prop} {T : List Nat}

@[go_sem] def lookUponG (P : Program) (G : World → World → Prop) (w : World) (v : Value) : Result Next → Prop
  | .ok (.value u) w' => w' = w ∧ u = v
  | .ok .skip w' => w' = w ∧ v = undef
  | .ok (.enter f args) w' => w' = w ∧ Calls P f args w (fun e w'' => e = .returned v ∧ G w w'')
  | _ => False
@[go_sem] def _root_.Go.Oper.looksG {ι : Type} (P : Program) (G : World → World → Prop) (o : Oper) (a : Act) (W : ι → World) (next : Act → Prop) : Prop := ∃ v, (∀ z, lookUponG P G (W z) v ((execOp a.eval o).run P (W z))) ∧ next (a.put o.dst v)

def YieldsG (P : Program) (ops : Array Oper) (G : World → World → Prop) (w : World) (o : Oper) (v : Value) (a : Act) : Prop :=
  (Region.wanted o (yielded ops a.tmps) = true ∧ ∀ w', G w w' → lookUponG P G w' v ((execOp a.eval o).run P w')) ∨ (Region.wanted o (yielded ops a.tmps) = false ∧ v = undef)
theorem YieldsG.of_same {w : World} {o : Oper} {v : Value} {a a' : Act} (hy : YieldsG P ops G w o v a) (he : execOp a'.eval o = execOp a.eval o)
    (hw : Region.wanted o (yielded ops a'.tmps) = Region.wanted o (yielded ops a.tmps)) : YieldsG P ops G w o v a' := by
  unfold YieldsG at *
  rw [he, hw]
  exact hy
theorem YieldsG.ext (ht : ∀ a b c, G a b → G b c → G a c) {w w1 : World} {o : Oper} {v : Value} {a : Act} (hy : YieldsG P ops G w o v a) (h : G w w1) : YieldsG P ops G w1 o v a := by
  rcases hy with ⟨h1, h2⟩ | h
  · exact .inl ⟨h1, fun w' hw' => h2 w' (ht _ _ _ h hw')⟩
  · exact .inr h
theorem YieldsG.wpOp (hrf : ∀ a, G a a) {i : Nat} {o : Oper} {v : Value} {a : Act} {w w' : World} {K : Act → World → Prop} (hi : ops[i]? = some o) (hy : YieldsG P ops G w o v a) (hw' : G w w') (h : ∀ w'', G w' w'' → K (a.put o.dst v) w'') : wpOp P ops Q i K a w' := by
  unfold Go.wpOp
  simp only [hi]
  rcases hy with ⟨hw, hv⟩ | ⟨hw, rfl⟩
  · simp only [hw, if_true]
    refine .inl ?_
    have hz := hv w' hw'
    unfold Oper.wp
    generalize (execOp a.eval o).run P w' = r at hz
    cases r with
    | ok n w1 =>
      cases n <;> simp only [lookUponG] at hz <;> simp only [Oper.upon]
      case value u => obtain ⟨rfl, rfl⟩ := hz; exact h _ (hrf _)
      case skip => obtain ⟨rfl, rfl⟩ := hz; exact h _ (hrf _)
      case enter f args =>
        obtain ⟨rfl, hc⟩ := hz
        refine hc.mono fun e w'' ⟨he, hm⟩ => ?_
        subst he; exact h _ hm
    | halt x w1 => simp only [lookUponG] at hz
  · simp only [hw, Bool.false_eq_true, if_false]; exact h _ (hrf _)
theorem wpOp_putG {j : Nat} {oi oj : Oper} {v : Value} {w w0 : World} (hj : ops[j]? = some oj) (hap : oi.apart ops oj = true)
    (hsi : ∀ cs b, oi.op ≠ .select cs b) (hsj : ∀ cs b, oj.op ≠ .select cs b)
    (hQ : ∀ c a w, Q (.panic c) (a.put oi.dst v) w → Q (.panic c) a w) {K : Act → World → Prop} {a : Act}
    (hy : YieldsG P ops G w0 oi v a) (h : wpOp P ops Q j K (a.put oi.dst v) w) :
    wpOp P ops Q j (fun a' w' => YieldsG P ops G w0 oi v a' ∧ K (a'.put oi.dst v) w') a w := by
  obtain ⟨h1, h2, h3⟩ := Oper.apart_spec hap
  have keep : ∀ (a : Act), YieldsG P ops G w0 oi v a → ∀ u, YieldsG P ops G w0 oi v (a.put oj.dst u) := fun a hy u =>
    hy.of_same (execOp_put oi hsi a oj.dst u h3) (wanted_put oi a oj.dst u h3)
  have keepD : ∀ d, YieldsG P ops G w0 oi v { a with defers := d :: a.defers } := fun d => hy.of_same rfl rfl
  unfold Go.wpOp at *
  simp only [hj] at *
  rw [wanted_put oj a oi.dst v h1] at h
  split
  · rename_i hw
    simp only [hw, if_true] at h
    rcases h with h | ⟨hasks, hlets⟩
    case inr => exact .inr ⟨by unfold Oper.asks at *; rw [execOp_put oj hsj a oi.dst v h1] at hasks; exact hasks, hlets⟩
    refine .inl ?_
    unfold Oper.wp at *
    rw [execOp_put oj hsj a oi.dst v h1] at h
    generalize (execOp a.eval oj).run P w = r at *
    cases r with
    | ok n w' =>
      cases n <;> simp only [Oper.upon] at h ⊢
      case value u => exact ⟨keep a hy u, by rw [← Act.put_comm a v u h2]; exact h⟩
      case skip => exact ⟨keep a hy _, by rw [← Act.put_comm a v undef h2]; exact h⟩
      case defer d =>
        refine ⟨keep _ (keepD d) _, ?_⟩
        rw [← Act.put_comm _ v undef h2, ← Act.put_defers]
        exact h
      case enter f args =>
        refine Calls.mono h fun e w'' he => ?_
        cases e with
        | returned u => exact ⟨keep a hy u, by rw [← Act.put_comm a v u h2]; exact he⟩
        | panicked c => exact hQ _ _ _ he
        | outgrown => exact he
      case row row args => exact Rows.mono h fun u w'' he => ⟨keep a hy u, by rw [← Act.put_comm a v u h2]; exact he⟩
    | halt x w' =>
      cases x <;> simp only [Oper.upon] at h ⊢
      case panic u => exact hQ _ _ _ h
  · rename_i hw
    simp only [hw] at h
    exact ⟨keep a hy _, by rw [← Act.put_comm a v undef h2]; exact h⟩

/-- Whatever order is picked from here on. -/
def wpG (P : Program) (md : Region.Mode) (ops : Array Oper) (Q : Exit → Act → World → Prop) (G : World → World → Prop) (T : List Nat) : Nat → Array Bool → Act → World → Prop
  | 0, listed, a, w => Region.ready md ops listed = [] ∧ ∀ w', G w w' → Q .normal a w'
  | fuel + 1, listed, a, w =>
    (Region.ready md ops listed = [] → ∀ w', G w w' → Q .normal a w') ∧
    ∀ i ∈ Region.ready md ops listed, ∀ w', G w w' → wpOp P ops Q i (fun a' w'' => (i ∉ T → G w' w'') ∧ wpG P md ops Q G T fuel (listed.setIfInBounds i true) a' w'') a w'
theorem wpG_ext (ht : ∀ a b c, G a b → G b c → G a c) {fuel : Nat} {listed : Array Bool} {a : Act} {w w1 : World} (h : wpG P md ops Q G T fuel listed a w) (h1 : G w w1) : wpG P md ops Q G T fuel listed a w1 := by
  cases fuel with
  | zero => exact ⟨h.1, fun w' hw' => h.2 _ (ht _ _ _ h1 hw')⟩
  | succ f => exact ⟨fun h0 w' hw' => h.1 h0 _ (ht _ _ _ h1 hw'), fun i hi w' hw' => h.2 i hi _ (ht _ _ _ h1 hw')⟩
theorem wpAny_of_G (hrf : ∀ a, G a a) : ∀ (fuel : Nat) (listed : Array Bool) (a : Act) (w : World), wpG P md ops Q G T fuel listed a w → wpAny P md ops Q fuel listed a w
  | 0, _, _, _, h => ⟨h.1, h.2 _ (hrf _)⟩
  | fuel + 1, _, _, _, h => ⟨fun h0 => h.1 h0 _ (hrf _), fun i hi => wpOp_mono (fun a' w' h' => wpAny_of_G hrf fuel _ a' w' h'.2) (h.2 i hi _ (hrf _))⟩

/-- What an operation waits for, through others. -/
def waitsFor (md : Region.Mode) (ops : Array Oper) : Nat → Nat → List Nat
  | 0, _ => []
  | n + 1, t => match ops[t]? with
    | none => []
    | some o => (o.after.toList.filter fun e => Region.binds md e).flatMap fun e => e.on :: waitsFor md ops n e.on
def downC (md : Region.Mode) (ops : Array Oper) (listed : Array Bool) : Prop := ∀ j oj, ops[j]? = some oj → listed.getD j false = true → ∀ e ∈ oj.after, Region.binds md e = true → listed.getD e.on false = true
theorem downC_waits {listed : Array Bool} (hd : downC md ops listed) : ∀ (n t : Nat), listed.getD t false = true → ∀ i ∈ waitsFor md ops n t, listed.getD i false = true
  | 0, _, _, i, hi => by simp [waitsFor] at hi
  | n + 1, t, ht, i, hi => by
    unfold waitsFor at hi
    split at hi
    · simp at hi
    · rename_i o ho
      rw [List.mem_flatMap] at hi
      obtain ⟨e, he, hi⟩ := hi
      rw [List.mem_filter] at he
      have h1 := hd t o ho ht e (by simpa using he.1) he.2
      simp only [List.mem_cons] at hi
      rcases hi with rfl | hi
      · exact h1
      · exact downC_waits hd n e.on h1 i hi
theorem ready_waits {listed : Array Bool} (hd : downC md ops listed) {t n : Nat} (hr : t ∈ Region.ready md ops listed) {i : Nat} (hi : i ∈ waitsFor md ops n t) : listed.getD i false = true := by
  obtain ⟨_, o, ho, hall⟩ := mem_ready.1 hr
  cases n with
  | zero => simp [waitsFor] at hi
  | succ n =>
    unfold waitsFor at hi
    rw [ho] at hi
    simp only at hi
    rw [List.mem_flatMap] at hi
    obtain ⟨e, he, hi⟩ := hi
    rw [List.mem_filter] at he
    have h1 := hall e (by simpa using he.1) he.2
    simp only [List.mem_cons] at hi
    rcases hi with rfl | hi
    · exact h1
    · exact downC_waits hd n e.on h1 i hi
theorem downC_set {listed : Array Bool} (hd : downC md ops listed) {i : Nat} (hr : i ∈ Region.ready md ops listed) : downC md ops (listed.setIfInBounds i true) := by
  intro j oj hj hl e he hb
  obtain ⟨_, o, ho, hall⟩ := mem_ready.1 hr
  by_cases hij : i = j
  · subst hij
    rw [ho] at hj; injection hj with hj; subst hj
    exact getD_set_true (hall e he hb)
  · rw [getD_set_ne false hij] at hl
    exact getD_set_true (hd j oj hj hl e he hb)

theorem wpG_first {i : Nat} {oi : Oper} {v : Value} (hrf : ∀ a, G a a) (ht : ∀ a b c, G a b → G b c → G a c) (hi : ops[i]? = some oi) (hsel : ∀ (j : Nat) (o : Oper) cs b, ops[j]? = some o → o.op ≠ .select cs b)
    (hQ : ∀ c (a a' : Act) w, a.defers = a'.defers → Q (.panic c) a w → Q (.panic c) a' w) (n : Nat) (hT : ∀ t ∈ T, i ∈ waitsFor md ops n t) :
    ∀ (fuel : Nat) (listed : Array Bool) (a : Act) (w : World), downC md ops listed →
      (∀ j oj, ops[j]? = some oj → j ≠ i → listed.getD j true = false → (∀ e ∈ oj.after, Region.binds md e = true → e.on ≠ i) → oi.apart ops oj = true) →
      i ∈ Region.ready md ops listed → YieldsG P ops G w oi v a →
      wpG P md ops Q G T fuel (listed.setIfInBounds i true) (a.put oi.dst v) w → wpG P md ops Q G T (fuel + 1) listed a w := by
  intro fuel
  induction fuel with
  | zero =>
    intro listed a w hdc _ hr hy H
    refine ⟨fun h => (by rw [h] at hr; cases hr), fun j hj w' hw' => ?_⟩
    by_cases hji : j = i
    · subst hji
      exact hy.wpOp hrf hi hw' fun w'' hw'' => ⟨fun _ => hw'', wpG_ext ht H (ht _ _ _ hw' hw'')⟩
    · have := ready_mono hj hji
      rw [H.1] at this
      cases this
  | succ fuel ih =>
    intro listed a w hdc hfree hr hy H
    refine ⟨fun h => (by rw [h] at hr; cases hr), fun j hj w' hw' => ?_⟩
    by_cases hji : j = i
    · subst hji
      exact hy.wpOp hrf hi hw' fun w'' hw'' => ⟨fun _ => hw'', wpG_ext ht H (ht _ _ _ hw' hw'')⟩
    · have h1 := H.2 j (ready_mono hj hji) w' hw'
      obtain ⟨hjun, oj, hoj, hall⟩ := mem_ready.1 hj
      have hun : listed.getD i true = false := (mem_ready.1 hr).1
      have hun2 : listed.getD i false = false := by
        rcases Nat.lt_or_ge i listed.size with h' | h'
        · simpa [h'] using hun
        · simp [Array.getElem?_eq_none h'] at hun
      have hnot : ∀ e ∈ oj.after, Region.binds md e = true → e.on ≠ i := fun e he hb heq => by
        have h1 := hall e he hb
        rw [heq, hun2] at h1; cases h1
      have hjT : j ∉ T := fun hjt => by
        have := ready_waits hdc hj (hT j hjt)
        rw [hun2] at this; cases this
      have h2 := wpOp_putG (G := G) hoj (hfree j oj hoj hji hjun hnot) (fun cs b => hsel i oi cs b hi) (fun cs b => hsel j oj cs b hoj) (fun c a w h => hQ c _ _ w (by cases oi.dst <;> rfl) h) (hy.ext ht hw') h1
      have hfree' : ∀ k ok, ops[k]? = some ok → k ≠ i → (listed.setIfInBounds j true).getD k true = false →
          (∀ e ∈ ok.after, Region.binds md e = true → e.on ≠ i) → oi.apart ops ok = true := fun k ok hk hki hun hno => by
        refine hfree k ok hk hki ?_ hno
        by_cases hjk : j = k
        · subst hjk; exact hjun
        · rw [getD_set_ne true hjk] at hun; exact hun
      refine wpOp_mono (fun a' w'' h3 => ⟨h3.2.1, ?_⟩) h2
      obtain ⟨hy', hG, h4⟩ := h3
      refine ih (listed.setIfInBounds j true) a' w'' (downC_set hdc hj) hfree' (ready_mono hr (Ne.symm hji)) (hy'.ext ht (hG hjT)) ?_
      rw [Array.setIfInBounds_comm _ _ hji]
      exact h4

/-- The looking operations, as they are walked. -/
def wpLooksG {ι : Type} (P : Program) (ops : Array Oper) (G : World → World → Prop) (W : ι → World) (K : Act → Prop) : List Oper → Act → Prop
  | [], a => K a
  | o :: rest, a => if Region.wanted o (yielded ops a.tmps) then o.looksG P G a W (wpLooksG P ops G W K rest) else wpLooksG P ops G W K rest (a.put o.dst undef)
theorem wpLooksG_nil {ι : Type} {W : ι → World} {K : Act → Prop} {a : Act} (h : K a) : wpLooksG P ops G W K [] a := h
theorem wpLooksG_step {ι : Type} {W : ι → World} {K0 : Act → Prop} {a : Act} {o : Oper} {rest : List Oper}
    (h : ∀ K : Act → Prop, (∀ a, wpLooksG P ops G W K0 rest a → K a) → if Region.wanted o (yielded ops a.tmps) then o.looksG P G a W K else K (a.put o.dst undef)) : wpLooksG P ops G W K0 (o :: rest) a :=
  h _ (fun _ h => h)
def permG (md : Region.Mode) (ops : Array Oper) (T : List Nat) (m : Nat) : List Nat → Array Bool → Bool
  | [], _ => true
  | i :: hd, listed => (Region.ready md ops listed).contains i && Region.free md ops listed i && (T.all fun t => (waitsFor md ops m t).contains i) && permG md ops T m hd (listed.setIfInBounds i true)
def downB (md : Region.Mode) (ops : Array Oper) (listed : Array Bool) : Bool := (List.range ops.size).all fun j => !(listed.getD j false) || ((ops[j]?).map fun o => o.after.all fun e => !(Region.binds md e) || listed.getD e.on false).getD true
theorem downB_spec {listed : Array Bool} (h : downB md ops listed = true) : downC md ops listed := by
  intro j oj hj hl e he hb
  unfold downB at h
  rw [List.all_eq_true] at h
  have := h j (List.mem_range.2 (Array.getElem?_eq_some_iff.1 hj).1)
  rw [hl, hj] at this
  simp only [Bool.not_true, Bool.false_or, Option.map_some, Option.getD_some, Array.all_eq_true_iff_forall_mem] at this
  have := this e he
  rw [hb] at this
  simpa using this
theorem wpG_looks_aux {ι : Type} {W : ι → World} (hrf : ∀ a, G a a) (ht : ∀ a b c, G a b → G b c → G a c) (hs : Region.noSelect ops = true) (hQ : ∀ c (a a' : Act) w, a.defers = a'.defers → Q (.panic c) a w → Q (.panic c) a' w) (m fuel : Nat) (w : World) (hW : ∀ w', G w w' → ∃ z, w' = W z) :
    ∀ (hd : List Nat) (lh : List Oper) (listed : Array Bool) (a : Act), hd.mapM (fun i => ops[i]?) = some lh → downC md ops listed → permG md ops T m hd listed = true →
    wpLooksG P ops G W (fun a' => wpG P md ops Q G T fuel (setAll listed hd) a' w) lh a → wpG P md ops Q G T (hd.length + fuel) listed a w
  | [], lh, listed, a, hl, _, _, h => by
    simp at hl; subst hl
    have e : ([] : List Nat).length + fuel = fuel := by simp
    rw [e]; exact h
  | i :: hd, lh, listed, a, hl, hdc, hB, h => by
    simp only [List.mapM_cons, Option.bind_eq_bind, Option.pure_def] at hl
    cases hi : ops[i]? with
    | none => simp [hi] at hl
    | some o =>
      cases hr : hd.mapM (fun i => ops[i]?) with
      | none => simp [hi, hr] at hl
      | some l' =>
        simp [hi, hr] at hl
        subst hl
        simp only [permG, Bool.and_eq_true, List.all_eq_true, List.contains_iff_mem] at hB
        obtain ⟨⟨⟨hB1, hB2⟩, hB3⟩, hB4⟩ := hB
        rw [show (i :: hd).length + fuel = (hd.length + fuel) + 1 by simp; omega]
        unfold wpLooksG at h
        split at h
        · rename_i hw
          obtain ⟨v, hv, hk⟩ := h
          exact wpG_first hrf ht hi (Region.noSelect_spec hs) hQ m hB3 _ listed a w hdc (Region.free_spec hi hB2) hB1 (.inl ⟨hw, fun w' hw' => by
            obtain ⟨z, rfl⟩ := hW w' hw'
            exact hv z⟩) (wpG_looks_aux hrf ht hs hQ m fuel w hW hd l' _ _ hr (downC_set hdc hB1) hB4 hk)
        · rename_i hw
          exact wpG_first hrf ht hi (Region.noSelect_spec hs) hQ m hB3 _ listed a w hdc (Region.free_spec hi hB2) hB1 (.inr ⟨by simpa using hw, rfl⟩) (wpG_looks_aux hrf ht hs hQ m fuel w hW hd l' _ _ hr (downC_set hdc hB1) hB4 h)
/-- The operations, written out. -/
def nthO : List Oper → Nat → Option Oper
  | [], _ => none
  | o :: _, 0 => some o
  | _ :: l, n + 1 => nthO l n
theorem nthO_eq : ∀ (l : List Oper) (n : Nat), nthO l n = l[n]?
  | [], n => by simp [nthO]
  | _ :: _, 0 => rfl
  | _ :: l, n + 1 => by unfold nthO; rw [nthO_eq l n]; rfl
def picks (l : List Oper) : List Nat → Option (List Oper)
  | [] => some []
  | i :: hd => match nthO l i, picks l hd with
    | some o, some r => some (o :: r)
    | _, _ => none
theorem picks_eq (l : List Oper) : ∀ (hd : List Nat) (lh : List Oper), picks l hd = some lh → hd.mapM (fun i => l.toArray[i]?) = some lh
  | [], lh, h => by simp [picks] at h; subst h; rfl
  | i :: hd, lh, h => by
    unfold picks at h
    split at h
    · rename_i o r h1 h2
      injection h with h; subst h
      rw [List.mapM_cons, picks_eq l hd r h2]
      rw [nthO_eq] at h1
      simp [h1]
    · cases h
/-- What looks comes first; W z: the worlds in which it may look. -/
theorem wpG_looks {l : List Oper} {n : Nat} {lh : List Oper} {listed : Array Bool} {a : Act} {w : World} (fuel m : Nat) (hd : List Nat) (hn : n = hd.length + fuel) (hrf : ∀ a, G a a) (ht : ∀ a b c, G a b → G b c → G a c) (hs : Region.noSelect l.toArray = true) (hQ : ∀ c (a a' : Act) w, a.defers = a'.defers → Q (.panic c) a w → Q (.panic c) a' w)
    (hl : picks l hd = some lh) (hB : (downB md l.toArray listed && permG md l.toArray T m hd listed) = true)
    (h : ∀ (ι : Type) (W : ι → World), Nonempty ι → Hid (∀ z, G w (W z)) → wpLooksG P l.toArray G W (fun a' => wpG P md l.toArray Q G T fuel (setAll listed hd) a' w) lh a) : wpG P md l.toArray Q G T n listed a w := by
  subst hn
  rw [Bool.and_eq_true] at hB
  obtain ⟨ι, W, hne, hW, hWs⟩ := classFam (G w) (hrf w)
  exact wpG_looks_aux hrf ht hs hQ m fuel w hWs hd lh listed a (picks_eq l hd lh hl) (downB_spec hB.1) hB.2 (h ι W hne (Lib.hid hW))
/-- One operation alone is ready. -/
theorem wpG_force {l : List Oper} {fuel : Nat} {listed : Array Bool} {a : Act} {w : World} (t : Nat) (o : Oper) (ho : nthO l t = some o) (hr : (Region.ready md l.toArray listed == [t]) = true) (hg : o.guard = none)
    (h : ∀ w', G w w' → ∀ K : Act → World → Prop, (∀ a' w'', (t ∉ T → G w' w'') → wpG P md l.toArray Q G T fuel (listed.setIfInBounds t true) a' w'' → K a' w'') → o.wp P a w' K Q) : wpG P md l.toArray Q G T (fuel + 1) listed a w := by
  have ho : l.toArray[t]? = some o := by rw [← ho, nthO_eq]; simp
  have hr' : Region.ready md l.toArray listed = [t] := by simpa using hr
  refine ⟨fun h0 => (by rw [hr'] at h0; cases h0), fun i hi w' hw' => ?_⟩
  rw [hr'] at hi
  obtain rfl : i = t := by simpa using hi
  unfold Go.wpOp
  simp only [ho]
  rw [if_pos (by simp [Region.wanted, hg])]
  exact .inl (h w' hw' _ fun a' w'' h1 h2 => ⟨h1, h2⟩)
theorem wpG_end {listed : Array Bool} {a : Act} {w : World} (hr : (Region.ready md ops listed).isEmpty = true) (h : ∀ w', G w w' → Q .normal a w') : ∀ fuel, wpG P md ops Q G T fuel listed a w
  | 0 => ⟨by simpa using hr, h⟩
  | _ + 1 => ⟨fun _ => h, fun i hi => by
      have : Region.ready md ops listed = [] := by simpa using hr
      rw [this] at hi; cases hi⟩
/-- A new variable of a struct's type, and the value stored into it. -/
theorem wpG_new {l : List Oper} {α : Type} [Enc α] {fuel : Nat} {listed : Array Bool} {t : TypeId} {a : Act} {w : World} (t1 t2 : Nat) (o1 o2 : Oper) (ho1 : nthO l t1 = some o1) (ho2 : nthO l t2 = some o2) (hr1 : (Region.ready md l.toArray listed == [t1]) = true) (hr2 : (Region.ready md l.toArray (listed.setIfInBounds t1 true) == [t2]) = true) (hg1 : o1.guard = none) (hg2 : o2.guard = none) (hT : T.contains t2 = true) (x y : Operand) (hp1 : o1.op = .alloc t) (hp2 : o2.op = .store t x y) (z u : α)
    (hal : ∀ w, (gAlloc t).run P w = .ok (.pointer (some ⟨w.heap.size, 0, none⟩)) (w.alloc (.cells (Enc.enc z).toArray t))) (ha : sizeT P t = Enc.n α)
    (hx : ∀ p, (a.put o1.dst p).eval x = p) (hy : ∀ p, (a.put o1.dst p).eval y = .agg (Enc.enc u).toArray)
    (hGa : ∀ w o, G w (w.alloc o)) (hGb : ∀ a b, G a b → Bel a b)
    (h : ∀ (g : Nat) (w1 w2 : World), G w w1 → g = w1.heap.size → Bel w1 w2 → get? α w2 ⟨g, 0, none⟩ = some u → g < w2.heap.size → wpG P md l.toArray Q G T fuel ((listed.setIfInBounds t1 true).setIfInBounds t2 true) ((a.put o1.dst (.pointer (some ⟨g, 0, none⟩))).put o2.dst undef) w2) : wpG P md l.toArray Q G T (fuel + 1 + 1) listed a w := by
  refine wpG_force t1 o1 ho1 hr1 hg1 fun w1 hw1 K hK => ?_
  have e1 := hal w1
  unfold gAlloc at e1
  unfold Oper.wp execOp
  simp only [hp1, Sem.run_bind]
  rw [e1]
  refine hK _ _ (fun _ => hGa _ _) ?_
  refine wpG_force t2 o2 ho2 hr2 hg2 fun w2 hw2 K hK => ?_
  have hbel := hGb _ _ hw2
  have hlt : w1.heap.size < (w1.alloc (.cells (Enc.enc z).toArray t)).heap.size := by simp
  have hget : get? α w2 ⟨w1.heap.size, 0, none⟩ = some z := (get?_below hbel (by exact hlt)).trans (get?_new t z)
  have hfree : blkFree w2 w1.heap.size = true := (blkFree_keep (hbel.block _ hlt)).trans (blkFree_new _ _ rfl)
  have hst := run_gStore (P := P) (t := t) (w := w2) (a := ⟨w1.heap.size, 0, none⟩) ha u (Option.isSome_iff_exists.2 ⟨z, hget⟩) hfree
  unfold gStore at hst
  unfold Oper.wp execOp
  simp only [hp2, Sem.run_bind, hx, hy]
  rw [hst]
  have hsz := hbel.size
  simp only [World.size_alloc] at hsz
  refine hK _ _ (fun hne => absurd (by simpa using hT) hne) (h _ w1 _ hw1 rfl ?_ ?_ ?_)
  · exact Below_putCells (Below.trans ((Below.refl _ _).alloc (Nat.le_refl _) _) (Below.mono hbel (by simp))) (Nat.le_refl _) _
  · rw [get?_iff]
    intro j v hj
    have hjl : j < Enc.n α := by have := (List.getElem?_eq_some_iff.1 hj).1; rwa [Enc.len] at this
    have hadd : ∀ i, (⟨w1.heap.size, 0, none⟩ : Addr).add i = ⟨w1.heap.size, i, none⟩ := fun i => by unfold Addr.add; split <;> simp_all
    rw [hadd]
    have hc := get?_iff.1 hget j ((Enc.enc z)[j]'(by rw [Enc.len]; exact hjl)) (List.getElem?_eq_getElem _)
    rw [hadd] at hc
    unfold World.putCells
    rw [cell_putFrom (a := ⟨w1.heap.size, 0, none⟩) rfl (Enc.enc u) 0 w2 ⟨w1.heap.size, j, none⟩ rfl (by rw [hc]; rfl)]
    rw [if_pos ⟨rfl, by simp, by simpa [Enc.len] using hjl⟩]
    simpa using hj
  · rw [size_putCells]; omega
theorem wp_region_G {id : Nat} {a : Act} {w : World} {l : List Oper} (G : World → World → Prop) (T : List Nat) (hrf : ∀ a, G a a) (hm : P.follows .mixedOrders = true)
    (h : wpG P .any l.toArray Q G T l.toArray.size (Array.replicate l.toArray.size false) a w.drew) : (Code.region id l.toArray true).wp P Q a w :=
  wp_region_any hm (wpAny_of_G hrf _ _ _ _ h)
end

/-- New blocks and draws; what was there stands. -/
def GB (w w' : World) : Prop := Below w.heap.size w w'
theorem GB.rf (a : World) : GB a a := Below.refl _ _
theorem GB.tr (a b c : World) (h : GB a b) (k : GB b c) : GB a c := Below.trans h (Below.mono k (Below.size h))
theorem GB.drewN (a : World) (n : Nat) : GB a (a.drewN n) := bdN (Below.refl _ _) n
theorem GB.al (w : World) (o : Obj) : GB w (w.alloc o) := (Below.refl _ _).alloc (Nat.le_refl _) o
theorem GB.bel (a b : World) (h : GB a b) : Bel a b := h
theorem GB.undrew {w w' : World} (h : GB w.drew w') : Bel w w' := by
  have h0 : Below w.drew.heap.size w.drew w' := h
  exact ⟨h0.os, h0.tape, h0.output, h0.size, h0.block⟩
theorem GB.cell {w w' : World} (h : GB w w') {p : Addr} {v : Value} (hc : w.cell? p = some v) : w'.cell? p = some v := (Below.cell h (World.block_lt_of_cell? w _ hc)).trans hc
theorem GB.get {α : Type} [Enc α] {w w' : World} (h : GB w w') {p : Addr} {x : α} (hc : get? α w p = some x) : get? α w' p = some x := (get?_below h (get?_lt hc)).trans hc
theorem quietG {P : Program} {f : FuncId} {args : Array Value} {w : World} {v : Value} {R : Ending → World → Prop} (h : Calls P f args w R) (hR : ∀ e w', R e w' → e = .returned v ∧ w' = w) : Calls P f args w fun e w' => e = .returned v ∧ GB w w' :=
  h.mono fun e w' h => by obtain ⟨h1, h2⟩ := hR e w' h; subst h2; exact ⟨h1, GB.rf _⟩
/-- .. but for one block. -/
def GX (r : Nat) (w w' : World) : Prop := w.grownBy w' (some r)
theorem GX.rf {r : Nat} (a : World) : GX r a a := ⟨rfl, rfl, rfl, Nat.le_refl _, fun _ _ _ => rfl⟩
theorem GX.tr {r : Nat} (a b c : World) (h : GX r a b) (k : GX r b c) : GX r a c := World.grownBy.trans h k
end Go.Gv
/- Words: numbers in texts, errors told, a text's words. Conditions: those named in each theorem. -/
namespace Go.Proofs.YtgeimnknmljplaaDoor
open Go Go.RowKit Go.Gv Go.Proofs

def digB (c : UInt8) : Bool := decide (48 ≤ c.toNat) && decide (c.toNat ≤ 57)
def numN (l : List UInt8) : Nat := l.foldl (fun n c => 10 * n + (c.toNat - 48)) 0
theorem numN_snoc (l : List UInt8) (c : UInt8) : numN (l ++ [c]) = 10 * numN l + (c.toNat - 48) := by unfold numN; simp
theorem take_snocU (s : ByteArray) (k : Nat) (h : k < s.size) : s.data.toList.take (k + 1) = s.data.toList.take k ++ [s[k]] := by
  rw [List.take_succ_eq_append_getElem (by simpa using h)]; rfl
theorem numN_lt (s : ByteArray) : ∀ (k : Nat), k ≤ s.size → (s.data.toList.take k).all digB = true → numN (s.data.toList.take k) < 10 ^ k
  | 0, _, _ => by simp [numN]
  | k + 1, hk, hd => by
    have hlt : k < s.size := hk
    rw [take_snocU s k hlt] at hd ⊢
    rw [List.all_append, Bool.and_eq_true] at hd
    have ih := numN_lt s k (by omega) hd.1
    have hc : digB s[k] = true := by simpa using hd.2
    unfold digB at hc
    simp only [Bool.and_eq_true, decide_eq_true_eq] at hc
    rw [numN_snoc, Nat.pow_succ]
    omega
theorem numN_14 {s : ByteArray} {k : Nat} (hk : k ≤ s.size) (h14 : k ≤ 14) (hd : (s.data.toList.take k).all digB = true) : numN (s.data.toList.take k) < 100000000000000 :=
  Nat.lt_of_lt_of_le (numN_lt s k hk hd) (Nat.pow_le_pow_right (by decide) h14 : 10 ^ k ≤ 10 ^ 14)
theorem numN_15 {s : ByteArray} (h15 : s.size ≤ 15) (hd : s.data.toList.all digB = true) : numN s.data.toList < 1000000000000000 := by
  have h1 : s.data.toList.take s.size = s.data.toList := List.take_of_length_le (by simp)
  have := numN_lt s s.size (Nat.le_refl _) (by rw [h1]; exact hd)
  rw [h1] at this
  exact Nat.lt_of_lt_of_le this (Nat.pow_le_pow_right (by decide) h15 : 10 ^ s.size ≤ 10 ^ 15)
def nought (s : ByteArray) : Bool := if h : 1 < s.size then decide ((s[0]'(by omega)).toNat = 48) else false
def numB (s : ByteArray) : Bool := decide (1 ≤ s.size) && (decide (s.size ≤ 15) && (!nought s && s.data.toList.all digB))
def numI (s : ByteArray) : Int := if numB s = true then (numN s.data.toList : Int) else 0
theorem numB_bad {s : ByteArray} {k : Nat} (h : k < s.size) (hc : digB s[k] = false) : numB s = false := by
  have : s.data.toList.all digB = false := by
    rw [List.all_eq_false]
    exact ⟨s[k], by
      have e : s[k] = s.data.toList[k]'(by simpa using h) := rfl
      rw [e]; exact List.getElem_mem _, by rw [hc]; simp⟩
  unfold numB
  rw [this]; simp
theorem numI_no {s : ByteArray} (h : numB s = false) : numI s = 0 := by unfold numI; rw [h]; rfl
theorem numI_yes {s : ByteArray} (h : numB s = true) : numI s = (numN s.data.toList : Int) := by unfold numI; rw [if_pos h]
theorem numI_bound (s : ByteArray) : 0 ≤ numI s ∧ numI s < 1000000000000000 := by
  cases hb : numB s
  · rw [numI_no hb]; omega
  · rw [numI_yes hb]
    unfold numB at hb
    simp only [Bool.and_eq_true, decide_eq_true_eq] at hb
    have := numN_15 hb.2.1 hb.2.2.2
    omega
set_option maxRecDepth 100000 in
set_option maxHeartbeats 1000000 in
theorem number_any (s : ByteArray) (w : World) (hs : s.size ≤ maxLen) :
    Calls Tryd.prog 17 #[.string s, .int .i64 15] w fun e w' => e = .returned (.tuple #[.int .i64 (numI s), .bool (numB s)]) ∧ w' = w := by
  unfold maxLen at hs
  by_cases h1 : 1 ≤ s.size
  · by_cases h15 : s.size ≤ 15
    · obtain ⟨c0, hc0⟩ : ∃ c, s[0]'(by omega) = c := ⟨_, rfl⟩
      have p1 : ¬ (s.size : Int) < 1 := by omega
      have p2 : ¬ (15 : Int) < (s.size : Int) := by omega
      have p3 : (0 : Int) < (s.size : Int) := by omega
      by_cases hn : nought s = true
      · have HB := Lib.hid (show numB s = false by unfold numB; rw [hn]; simp)
        have hn2 : 1 < s.size ∧ c0.toNat = 48 := by
          unfold nought at hn
          split at hn
          · rename_i h; rw [hc0] at hn; exact ⟨h, of_decide_eq_true hn⟩
          · cases hn
        obtain ⟨q1, q2⟩ := hn2
        have q3 : (1 : Int) < (s.size : Int) := by omega
        have q4 : (c0.toNat : Int) = 48 := by omega
        go_enter Tryd.func17, Tryd.ntmps17
        go_wp2_with fail
        go_ret2
        exact ⟨by rw [HB.out, numI_no HB.out]; rfl, rfl⟩
      · have HNN := Lib.hid (show nought s = false by simpa using hn)
        have hor : (c0.toNat = 48 ∧ ¬ 1 < s.size) ∨ c0.toNat ≠ 48 := by
          by_cases h : c0.toNat = 48
          · refine .inl ⟨h, fun h2 => hn ?_⟩
            unfold nought
            rw [dif_pos h2, hc0]
            exact decide_eq_true h
          · exact .inr h
        clear hn
        rcases hor with ⟨q1, q2⟩ | q1
        · have q3 : (c0.toNat : Int) = 48 := by omega
          have q4 : ¬ (1 : Int) < (s.size : Int) := by omega
          clear q1 q2
          go_enter Tryd.func17, Tryd.ntmps17
          go_wp2_with fail
          go_loopw [6, 7] (fun n i wr => ∃ k : Nat, k ≤ s.size ∧ i = .int .i64 k ∧ n = .int .i64 (numN (s.data.toList.take k) : Nat) ∧ Hid ((s.data.toList.take k).all digB = true) ∧ wr = w) (fun _ i _ => s.size - (intOf i).toNat)
          case atStart => exact ⟨0, Nat.zero_le _, rfl, rfl, Lib.hid rfl, rfl⟩
          case round =>
            obtain ⟨k, hk, rfl, rfl, hall, rfl⟩ := hrel
            obtain ⟨v, hv⟩ : ∃ v, numN (s.data.toList.take k) = v := ⟨_, rfl⟩
            rw [hv]
            have HV := Lib.hid hv
            clear hv
            by_cases hlt : k < s.size
            · obtain ⟨c, hc⟩ : ∃ c, s[k] = c := ⟨_, rfl⟩
              have HC := Lib.hid hc
              have hlt2 : (k : Int) < (s.size : Int) := by omega
              have hk0 : (0 : Int) ≤ (k : Int) := by omega
              by_cases hlo : (c.toNat : Int) < 48
              · have HB := Lib.hid (numB_bad hlt (show digB s[k] = false by rw [HC.out]; unfold digB; rw [decide_eq_false (by omega)]; rfl))
                go_wp2_with fail
                go_ret2
                exact ⟨by rw [HB.out, numI_no HB.out]; rfl, rfl⟩
              · by_cases hhi : (57 : Int) < (c.toNat : Int)
                · have HB := Lib.hid (numB_bad hlt (show digB s[k] = false by rw [HC.out]; unfold digB; rw [decide_eq_false (show ¬ c.toNat ≤ 57 by omega), Bool.and_false]))
                  go_wp2_with fail
                  go_ret2
                  exact ⟨by rw [HB.out, numI_no HB.out]; rfl, rfl⟩
                · have hv14 : v < 100000000000000 := by rw [← HV.out]; exact numN_14 hk (by omega) hall.out
                  have HD := Lib.hid (show (s.data.toList.take (k + 1)).all digB = true by
                    rw [take_snocU s k hlt, List.all_append, hall.out, HC.out]
                    have : digB c = true := by unfold digB; rw [decide_eq_true (show 48 ≤ c.toNat by omega), decide_eq_true (show c.toNat ≤ 57 by omega)]; rfl
                    simp [this])
                  obtain ⟨d, hd, hd9⟩ : ∃ d : Nat, c.toNat = d + 48 ∧ d ≤ 9 := ⟨c.toNat - 48, by omega, by omega⟩
                  have HS := Lib.hid (show numN (s.data.toList.take (k + 1)) = 10 * v + d by rw [take_snocU s k hlt, numN_snoc, HV.out, HC.out, hd, Nat.add_sub_cancel])
                  have e1 : IntKind.u8.wrap ((c.toNat : Int) - 48) = (d : Int) := by rw [IntWalk.u8_in _ (by omega)]; omega
                  have e2 : IntKind.i64.wrap (10 * (v : Int)) = 10 * (v : Int) := IntWalk.i64_in _ (by omega)
                  have e3 : IntKind.i64.wrap (d : Int) = (d : Int) := IntWalk.i64_in _ (by omega)
                  have e4 : IntKind.i64.wrap (10 * (v : Int) + (d : Int)) = 10 * (v : Int) + (d : Int) := IntWalk.i64_in _ (by omega)
                  clear hd hall
                  go_wp2_with fail
                  exact ⟨⟨k + 1, by omega, by go_num, by rw [HS.out]; push_cast; rfl, HD, trivial⟩, by simp [intOf]; omega⟩
            · obtain rfl : k = s.size := by omega
              have hn9 : ¬ (s.size : Int) < (s.size : Int) := by omega
              have hd : s.data.toList.all digB = true := by
                have := hall.out
                rwa [List.take_of_length_le (by simp)] at this
              have HB := Lib.hid (show numB s = true by unfold numB; rw [decide_eq_true h1, decide_eq_true h15, HNN.out, hd]; rfl)
              have HVV := Lib.hid (show numN s.data.toList = v by rw [← HV.out, List.take_of_length_le (by simp)])
              clear hd
              go_wp2_with fail
              go_ret2
              exact ⟨by rw [HB.out, numI_yes HB.out, HVV.out]; rfl, rfl⟩
        · have q3 : ¬ (c0.toNat : Int) = 48 := by omega
          clear q1
          go_enter Tryd.func17, Tryd.ntmps17
          go_wp2_with fail
          go_loopw [6, 7] (fun n i wr => ∃ k : Nat, k ≤ s.size ∧ i = .int .i64 k ∧ n = .int .i64 (numN (s.data.toList.take k) : Nat) ∧ Hid ((s.data.toList.take k).all digB = true) ∧ wr = w) (fun _ i _ => s.size - (intOf i).toNat)
          case atStart => exact ⟨0, Nat.zero_le _, rfl, rfl, Lib.hid rfl, rfl⟩
          case round =>
            obtain ⟨k, hk, rfl, rfl, hall, rfl⟩ := hrel
            obtain ⟨v, hv⟩ : ∃ v, numN (s.data.toList.take k) = v := ⟨_, rfl⟩
            rw [hv]
            have HV := Lib.hid hv
            clear hv
            by_cases hlt : k < s.size
            · obtain ⟨c, hc⟩ : ∃ c, s[k] = c := ⟨_, rfl⟩
              have HC := Lib.hid hc
              have hlt2 : (k : Int) < (s.size : Int) := by omega
              have hk0 : (0 : Int) ≤ (k : Int) := by omega
              by_cases hlo : (c.toNat : Int) < 48
              · have HB := Lib.hid (numB_bad hlt (show digB s[k] = false by rw [HC.out]; unfold digB; rw [decide_eq_false (by omega)]; rfl))
                go_wp2_with fail
                go_ret2
                exact ⟨by rw [HB.out, numI_no HB.out]; rfl, rfl⟩
              · by_cases hhi : (57 : Int) < (c.toNat : Int)
                · have HB := Lib.hid (numB_bad hlt (show digB s[k] = false by rw [HC.out]; unfold digB; rw [decide_eq_false (show ¬ c.toNat ≤ 57 by omega), Bool.and_false]))
                  go_wp2_with fail
                  go_ret2
                  exact ⟨by rw [HB.out, numI_no HB.out]; rfl, rfl⟩
                · have hv14 : v < 100000000000000 := by rw [← HV.out]; exact numN_14 hk (by omega) hall.out
                  have HD := Lib.hid (show (s.data.toList.take (k + 1)).all digB = true by
                    rw [take_snocU s k hlt, List.all_append, hall.out, HC.out]
                    have : digB c = true := by unfold digB; rw [decide_eq_true (show 48 ≤ c.toNat by omega), decide_eq_true (show c.toNat ≤ 57 by omega)]; rfl
                    simp [this])
                  obtain ⟨d, hd, hd9⟩ : ∃ d : Nat, c.toNat = d + 48 ∧ d ≤ 9 := ⟨c.toNat - 48, by omega, by omega⟩
                  have HS := Lib.hid (show numN (s.data.toList.take (k + 1)) = 10 * v + d by rw [take_snocU s k hlt, numN_snoc, HV.out, HC.out, hd, Nat.add_sub_cancel])
                  have e1 : IntKind.u8.wrap ((c.toNat : Int) - 48) = (d : Int) := by rw [IntWalk.u8_in _ (by omega)]; omega
                  have e2 : IntKind.i64.wrap (10 * (v : Int)) = 10 * (v : Int) := IntWalk.i64_in _ (by omega)
                  have e3 : IntKind.i64.wrap (d : Int) = (d : Int) := IntWalk.i64_in _ (by omega)
                  have e4 : IntKind.i64.wrap (10 * (v : Int) + (d : Int)) = 10 * (v : Int) + (d : Int) := IntWalk.i64_in _ (by omega)
                  clear hd hall
                  go_wp2_with fail
                  exact ⟨⟨k + 1, by omega, by go_num, by rw [HS.out]; push_cast; rfl, HD, trivial⟩, by simp [intOf]; omega⟩
            · obtain rfl : k = s.size := by omega
              have hn9 : ¬ (s.size : Int) < (s.size : Int) := by omega
              have hd : s.data.toList.all digB = true := by
                have := hall.out
                rwa [List.take_of_length_le (by simp)] at this
              have HB := Lib.hid (show numB s = true by unfold numB; rw [decide_eq_true h1, decide_eq_true h15, HNN.out, hd]; rfl)
              have HVV := Lib.hid (show numN s.data.toList = v by rw [← HV.out, List.take_of_length_le (by simp)])
              clear hd
              go_wp2_with fail
              go_ret2
              exact ⟨by rw [HB.out, numI_yes HB.out, HVV.out]; rfl, rfl⟩
    · have HB := Lib.hid (show numB s = false by unfold numB; rw [decide_eq_false h15]; simp)
      have p1 : ¬ (s.size : Int) < 1 := by omega
      have p2 : (15 : Int) < (s.size : Int) := by omega
      go_enter Tryd.func17, Tryd.ntmps17
      go_wp2_with fail
      go_ret2
      exact ⟨by rw [HB.out, numI_no HB.out]; rfl, rfl⟩
  · have HB := Lib.hid (show numB s = false by unfold numB; rw [decide_eq_false h1]; simp)
    have p1 : (s.size : Int) < 1 := by omega
    go_enter Tryd.func17, Tryd.ntmps17
    go_wp2_with fail
    go_ret2
    exact ⟨by rw [HB.out, numI_no HB.out]; rfl, rfl⟩
/-- A text's words, by one blank each. -/
def wordsM (s : ByteArray) : List ByteArray := Lib.splitB ⟨#[32]⟩ 0 (Lib.countB s ⟨#[32]⟩) s
theorem wordsM_len (s : ByteArray) : (wordsM s).length = Lib.countB s ⟨#[32]⟩ + 1 := Lib.splitB_all ⟨#[32]⟩ (by decide) 0 _ s rfl
/-- What the library's functions ask of the world: two package-level variables. -/
structure LibIs (w : World) : Prop where
  most : ∃ m : Int, w.cell? ⟨Tryd.split_ren.g 1, 0, none⟩ = some (.int .i64 m)
  tab : Lib.TabIs Tryd.prog w "internal/strconv.uint64pow10" .u64 Lib.pow10Tab
theorem strs_enc : ∀ (L : List ByteArray), (L.map StrV.mk).flatMap Enc.enc = L.map Value.string
  | [] => rfl
  | s :: L => by rw [List.map_cons, List.flatMap_cons, strs_enc L]; rfl
theorem words_any (s : ByteArray) (w : World) (hs : s.size < 4294967281) (h : LibIs w) :
    Calls Tryd.prog 14 #[.string s] w fun e w' => ∃ A, e = .returned (.slice A (wordsM s).length (wordsM s).length) ∧ Sl StrV w' w'.heap.size A (wordsM s).length ((wordsM s).map StrV.mk) ∧ Bel w w' := by
  obtain ⟨m, hm⟩ := h.most
  go_enter Tryd.func14, Tryd.ntmps14
  go_wp2_with fail
  refine (Any.strings_Split { Tryd.split with } Tryd.split.i9 s ⟨#[32]⟩ m w hs hm (by decide)).mono ?_
  rintro _ w1 ⟨rfl, rfl⟩
  rw [← wordsM_len]
  go_wp2_with fail
  go_ret
  exact ⟨_, rfl, Sl.new_ (by rw [strs_enc]; rfl) (by rw [List.length_map]) rfl (by simp), (Bel.refl w).alloc _⟩
def toldB (e : Nat) : ByteArray := if e = 0 then ⟨#[111, 107]⟩ else ⟨#[101, 114, 114, 111, 114, 32]⟩ ++ ⟨(Lib.decDigits e).toArray⟩
theorem digits_short : ∀ e < 100, (Lib.decDigits e).length ≤ 2 := by decide +kernel
theorem told_any (e : Nat) (w : World) (he : e < 100) :
    Calls Tryd.prog 15 #[.int .i64 (e : Int)] w fun r w' => r = .returned (.string (toldB e)) ∧ w' = w := by
  by_cases h0 : e = 0
  · subst h0
    go_enter Tryd.func15, Tryd.ntmps15
    go_wp2_with fail
    go_ret
    exact ⟨rfl, rfl⟩
  · have hT := Lib.hid (show toldB e = ⟨#[101, 114, 114, 111, 114, 32]⟩ ++ ⟨(Lib.decDigits e).toArray⟩ by unfold toldB; rw [if_neg h0])
    have h1 : ¬ (e : Int) = 0 := by omega
    have h2 := digits_short e he
    have h3 : ¬ 9223372036854775807 < 6 + (Lib.decDigits e).length := by omega
    go_enter Tryd.func15, Tryd.ntmps15
    go_wp2_with fail
    refine (Any.strconv_Itoa_small { Tryd.itoa with } e he w).mono ?_
    rintro _ w1 ⟨rfl, rfl⟩
    go_wp2_with fail
    go_ret
    exact ⟨by rw [hT.out]; rfl, rfl⟩
end Go.Proofs.YtgeimnknmljplaaDoor
/- What the frames of this seat's laws share: the listed variables, the world of the witness, the wrap that hands the world's shape on. Conditions: those named in each theorem. -/
namespace Go.Proofs.YtgeimnknmljplaaDoor
open Go Go.RowKit Go.Gv Go.ChangeShapes Go.WideShapes Go.ChangeAt

/-- The wrap of a law with listed variables: the contract is handed what they hold, and the world's shape. -/
theorem returns_laid {H : Type} {enc : TypeId × Value → H} {a : Assume} {C : Checked} {os : Os} {f : FuncId} {fn : Func} {s : ChangeSpec} {conds : List PathCond} {apart fresh handsOn again : Bool} {laid : List (String × DataW Unit)}
    (own : ownKnob C.prog.godebug = none) (started : os.Started) (noInit : C.prog.inits.idxOf? f = none) (hfn : C.prog.funcs[f]? = some fn)
    (witness : ∃ (w : World) (tape : Tape) (i : Input), w.os = os ∧ (w.forCall tape i).Shaped C.prog ∧ i.vars = [] ∧ Input.okWide C.prog (w.forCall tape i) .any w.heap.size f i ∧
      ((s.pre enc C.prog fn conds apart (w.forCall tape i).memory i.args ∧ laidMetH C.prog laid (w.forCall tape i).memory) ∧ sizedMet enc C.prog fn (OpenSpec.ofChange s) apart (w.forCall tape i).memory i.args) ∧ a.holds C.prog (lone (Frame.enter C.prog f i.args .normal) [] (w.forCall tape i)))
    (contract : ∀ (W : World) (base : Nat) (args : Array Value) (ds gs : List (DataW H)) (before : List MemPlace),
      (∀ (j : Nat) t v, fn.params[j]? = some t → args[j]? = some v → Value.okWide C.prog W .any base t v) →
      DataW.Whole enc C.prog fn.params.toList s.vars apart W args.toList ds gs before → laidMetH C.prog laid W → W.ShapedOpen C.prog →
      Calls C.prog f args W fun e W' => ∃ v, e = .returned v ∧ s.post enc C.prog fn apart fresh handsOn again W args v W') :
    ReturnsInHanded a C os f .any (fun w args => (s.pre enc C.prog fn conds apart w args ∧ laidMetH C.prog laid w) ∧ sizedMet enc C.prog fn (OpenSpec.ofChange s) apart w args) (s.post enc C.prog fn apart fresh handsOn again) := by
  refine returnsInHanded_of_calls own started noInit witness ?_
  intro w tape i _ hsh _ hok hpre _
  obtain ⟨_, _, _, fn', hfn', _, _, _, _, hval⟩ := hok
  have e : fn' = fn := Option.some.inj (hfn'.symm.trans hfn)
  subst e
  obtain ⟨⟨⟨ds, gs, before, hw, _⟩, hx⟩, _⟩ := hpre
  have hw' := DataW.Whole.of_heap (w' := w.forCall tape i) (by rfl) hw
  refine (contract (w.forCall tape i) w.heap.size i.args ds gs before hval hw' (hx.of_heap (by rfl)) hsh).mono fun e W' ⟨v, he, hp⟩ => ?_
  subst he
  exact ChangeSpec.post_blind hp

/-- The variables that each row of this seat lists. -/
def laidL : List (String × DataW Unit) := [("math/bits.deBruijn32tab", Rows.laid_math_bits_deBruijn32tab), ("math/bits.deBruijn64tab", Rows.laid_math_bits_deBruijn64tab), ("internal/strconv.uint64pow10", Rows.laid_internal_strconv_uint64pow10), ("unicode/utf8.acceptRanges", Rows.laid_unicode_utf8_acceptRanges), ("unicode/utf8.first", Rows.laid_unicode_utf8_first)]
theorem laid_plain : (laidL.all fun x => x.2.handleName?.isNone) = true := by kernel_rfl
theorem pow10_laid : (Rows.laid_internal_strconv_uint64pow10 : DataW Unit) = Lib.tabData .u64 Lib.pow10Tab := by kernel_rfl
theorem libIs_of {W : World} (h : laidMetH Tryd.prog laidL W) (hs : W.ShapedOpen Tryd.prog) : LibIs W := by
  rw [MakeChecks.laidMetH_plain _ _ _ laid_plain] at h
  have h2 := laidMet.tail (laidMet.tail h)
  rw [pow10_laid] at h2
  exact ⟨Tryd.split.s1_3 W hs, Lib.tabIs_of_head (g := 1) (t := 133) (e := 26) (n := 20) (by kernel_rfl) (by kernel_rfl) Tryd.underlying133 Tryd.underlying26 (by kernel_rfl) (by kernel_rfl) h2⟩

theorem wit_fits (os : Os) : (World.holding Tryd.prog os ⟨#[], #[], []⟩).layFits Tryd.prog laidL [] = true := by kernel_rfl
theorem wit_ifaces (os : Os) : (World.holding Tryd.prog os ⟨#[], #[], []⟩).layIfaces Tryd.prog laidL (World.laidAll Tryd.prog os laidL) = true := by kernel_rfl
theorem wit_laid (os : Os) (args : Array Value) : laidMetH Tryd.prog laidL ((World.laidAll Tryd.prog os laidL).forCall (fun _ _ => 0) ⟨#[], args, []⟩).memory := by
  rw [MakeChecks.laidMetH_plain _ _ _ laid_plain]
  exact laidMet_laidAll _ (wit_fits os) (wit_ifaces os)
end Go.Proofs.YtgeimnknmljplaaDoor
