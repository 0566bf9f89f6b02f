/- What SortStableFunc at bids computes. Conditions: those named in each theorem. -/
import Derived.Test.YteockodnfempfaaP2
import Derived.Test.YteockodnfempfaaP1
import Derived.Lib.SliceRun
import Derived.Deep.DeepCutAuto
import Derived.StillTailTactics
import Derived.Sort.Grow
import Derived.Shelf.SlSortCmp.NoneTotal
/- The struct types of this seat as Lean types, with the runs of single operations over them. Conditions: those named in each theorem. -/
namespace Go.Proofs.Yteockodnfempfaa
open Go Go.RowKit Go.Gv
set_option linter.unusedSimpArgs false

theorem na4 : aggT Try.prog 4 = false := by kernel_rfl
theorem us4 : (Try.prog.underlying 4).isSome = true := by kernel_rfl
theorem uk4 : Try.prog.underlying 4 = some .bool := by kernel_rfl
theorem na9 : aggT Try.prog 9 = false := by kernel_rfl
theorem us9 : (Try.prog.underlying 9).isSome = true := by kernel_rfl
theorem uk9 : Try.prog.underlying 9 = some .string := by kernel_rfl
theorem na141 : aggT Try.prog 141 = false := by kernel_rfl
theorem us141 : (Try.prog.underlying 141).isSome = true := by kernel_rfl
theorem na144 : aggT Try.prog 144 = false := by kernel_rfl
theorem us144 : (Try.prog.underlying 144).isSome = true := by kernel_rfl

/-! ### gavel/auction.Result -/
structure GAuctionResult where
  name : ByteArray
  winner : Int
  price : Int
deriving DecidableEq
instance : Inhabited GAuctionResult := ⟨⟨ByteArray.empty, 0, 0⟩⟩
def GAuctionResult.enc (x : GAuctionResult) : List Value := [(.string x.name)] ++ ([(.int .i64 x.winner)] ++ ([(.int .i64 x.price)]))
theorem GAuctionResult.enc_len (x : GAuctionResult) : x.enc.length = 3 := by simp [GAuctionResult.enc]
theorem GAuctionResult.enc_one (x : GAuctionResult) : ∀ u ∈ x.enc, u.oneCell' = true := by
  intro u hu
  simp only [GAuctionResult.enc, List.mem_append, List.mem_singleton] at hu
  rcases hu with hu | hu | hu
  · subst hu; rfl
  · subst hu; rfl
  · subst hu; rfl
theorem GAuctionResult.enc_inj (x y : GAuctionResult) (h : x.enc = y.enc) : x = y := by
  obtain ⟨a0, a1, a2⟩ := x
  obtain ⟨b0, b1, b2⟩ := y
  simp only [GAuctionResult.enc] at h
  obtain ⟨p0, q0⟩ := List.append_inj h (rfl)
  have e0 : a0 = b0 := by have := List.head_eq_of_cons_eq p0; injection this
  obtain ⟨p1, q1⟩ := List.append_inj q0 (rfl)
  have e1 : a1 = b1 := by have := List.head_eq_of_cons_eq p1; injection this
  have e2 : a2 = b2 := by have := List.head_eq_of_cons_eq q1; injection this
  rw [e0, e1, e2]
instance : Enc GAuctionResult where
  n := 3
  enc := GAuctionResult.enc
  pos := by omega
  len := GAuctionResult.enc_len
  one := GAuctionResult.enc_one
  inj := GAuctionResult.enc_inj
@[go_sem] theorem GAuctionResult.n_eq : Enc.n GAuctionResult = 3 := rfl
@[irreducible] def GAuctionResult.val (x : GAuctionResult) : Value := .agg x.enc.toArray
theorem GAuctionResult.val_eq (x : GAuctionResult) : GAuctionResult.val x = .agg (Enc.enc x).toArray := by unfold GAuctionResult.val; rfl
theorem GAuctionResult.ext_all (x y : GAuctionResult) : x = y ↔ x.name = y.name ∧ x.winner = y.winner ∧ x.price = y.price := by
  constructor
  · intro h; cases h; simp
  · intro h; cases x; cases y; simp_all
theorem uu59 : Try.prog.underlying 59 = some (.struct (Try.prog.fieldsOf 59)) := by kernel_rfl
theorem st59 : Try.prog.stoodInHeld 59 = false := by kernel_rfl
theorem fl59 : fieldTO Try.prog 59 = [(9, 0), (3, 1), (3, 2)] := by kernel_rfl
theorem nb59 : noBlank Try.prog 59 = true := by kernel_rfl
@[go_sem ↓ high] theorem xl_GAuctionResult (ρ : Operand → Value) (dst : Option Tmp) (x : Operand) (ty : TypeId) (pos : String) (after : Array Edge) (guard : Option (Nat × Bool)) : execOp ρ { dst, op := .load 59 x, type := ty, pos, after, guard } = (do pure (.value (← gLoad 59 (ρ x)))) := ex_load ..
@[go_sem ↓ high] theorem xs_GAuctionResult (ρ : Operand → Value) (dst : Option Tmp) (x y : Operand) (ty : TypeId) (pos : String) (after : Array Edge) (guard : Option (Nat × Bool)) : execOp ρ { dst, op := .store 59 x y, type := ty, pos, after, guard } = (do gStore 59 (ρ x) (ρ y); pure .skip) := ex_store ..
@[go_sem ↓ high] theorem xb_GAuctionResult (ρ : Operand → Value) (dst : Option Tmp) (x : Operand) (ty : TypeId) (pos : String) (after : Array Edge) (guard : Option (Nat × Bool)) : execOp ρ { dst, op := .box 59 x, type := ty, pos, after, guard } = (do pure (.value (← gBox 59 (ρ x)))) := ex_box ..
@[go_sem ↓ high] theorem xa_GAuctionResult (ρ : Operand → Value) (dst : Option Tmp) (ty : TypeId) (pos : String) (after : Array Edge) (guard : Option (Nat × Bool)) : execOp ρ { dst, op := .alloc 59, type := ty, pos, after, guard } = (do pure (.value (← gAlloc 59))) := ex_alloc ..
theorem ag59 : aggT Try.prog 59 = true := by kernel_rfl
theorem sz59 : sizeT Try.prog 59 = 3 := by kernel_rfl
section
variable (w : World)
@[go_sem ↓ high] theorem ld_GAuctionResult (a : Addr) : (gLoad 59 (.pointer (some a))).run Try.prog w = ofOpt ((get? GAuctionResult w a).map GAuctionResult.val) w (noLoad Try.prog 59 a w) := by
  unfold gLoad; exact run_loadAt_opt ag59 sz59 GAuctionResult.val GAuctionResult.val_eq
@[go_sem ↓ high] theorem st_GAuctionResult (a : Addr) (x : GAuctionResult) : (gStore 59 (.pointer (some a)) (GAuctionResult.val x)).run Try.prog w = okU' ((get? GAuctionResult w a).isSome && blkFree w a.block) (World.putCells w a (GAuctionResult.enc x)) (noStore Try.prog 59 (.pointer (some a)) (GAuctionResult.val x) w) := run_gStore_any sz59 GAuctionResult.val GAuctionResult.val_eq w a x
@[go_sem ↓ high] theorem bx_GAuctionResult (x : GAuctionResult) : (gBox 59 (GAuctionResult.val x)).run Try.prog w = .ok (.pointer (some ⟨w.heap.size, 0, none⟩)) (w.alloc (.cells (GAuctionResult.enc x).toArray 59)) := by
  rw [GAuctionResult.val_eq]; exact run_gBox _ w
end
theorem lk59_0 (x : GAuctionResult) : x.enc[0]? = some (.string x.name) := by
  simp [GAuctionResult.enc, List.getElem?_append]
theorem pt59_0 (w : World) (x : GAuctionResult) : (part 9 x.enc.toArray 0).run Try.prog w = .ok (.string x.name) w := run_part_one na9 us9 (lk59_0 x)
@[go_sem ↓ high] theorem fd59_0 (w : World) (x : GAuctionResult) : (gField 59 (GAuctionResult.val x) 0).run Try.prog w = .ok (.string x.name) w := by
  rw [GAuctionResult.val_eq]
  exact run_gField w uu59 (by rw [fl59]; rfl) (pt59_0 w x)
theorem lk59_1 (x : GAuctionResult) : x.enc[1]? = some (.int .i64 x.winner) := by
  simp [GAuctionResult.enc, List.getElem?_append]
theorem pt59_1 (w : World) (x : GAuctionResult) : (part 3 x.enc.toArray 1).run Try.prog w = .ok (.int .i64 x.winner) w := run_part_one na3 us3 (lk59_1 x)
@[go_sem ↓ high] theorem fd59_1 (w : World) (x : GAuctionResult) : (gField 59 (GAuctionResult.val x) 1).run Try.prog w = .ok (.int .i64 x.winner) w := by
  rw [GAuctionResult.val_eq]
  exact run_gField w uu59 (by rw [fl59]; rfl) (pt59_1 w x)
theorem lk59_2 (x : GAuctionResult) : x.enc[2]? = some (.int .i64 x.price) := by
  simp [GAuctionResult.enc, List.getElem?_append]
theorem pt59_2 (w : World) (x : GAuctionResult) : (part 3 x.enc.toArray 2).run Try.prog w = .ok (.int .i64 x.price) w := run_part_one na3 us3 (lk59_2 x)
@[go_sem ↓ high] theorem fd59_2 (w : World) (x : GAuctionResult) : (gField 59 (GAuctionResult.val x) 2).run Try.prog w = .ok (.int .i64 x.price) w := by
  rw [GAuctionResult.val_eq]
  exact run_gField w uu59 (by rw [fl59]; rfl) (pt59_2 w x)
@[go_sem ↓ high] theorem xf_GAuctionResult (ρ : Operand → Value) (dst : Option Tmp) (x : Operand) (i : Nat) (ty : TypeId) (pos : String) (after : Array Edge) (guard : Option (Nat × Bool)) : execOp ρ { dst, op := .field 59 x i, type := ty, pos, after, guard } = (do pure (.value (← gField 59 (ρ x) i))) := ex_field ..
theorem zr59 : zeroT Try.prog 59 = some (.agg (GAuctionResult.enc default).toArray) := by kernel_rfl
@[go_sem ↓ high] theorem al_GAuctionResult (w : World) : (gAlloc 59).run Try.prog w = .ok (.pointer (some ⟨w.heap.size, 0, none⟩)) (w.alloc (.cells (GAuctionResult.enc default).toArray 59)) := run_zero_alloc zr59 w
@[go_sem] theorem pc_GAuctionResult (w : World) (n : Nat) (x z : GAuctionResult) (hn : n = w.heap.size) : World.putCells (w.alloc (.cells (GAuctionResult.enc z).toArray 59)) ⟨n, 0, none⟩ (GAuctionResult.enc x) = w.alloc (.cells (GAuctionResult.enc x).toArray 59) := putCells_top x z hn
theorem GAuctionResult.at_name {w : World} {a : Addr} {x : GAuctionResult} (h : get? GAuctionResult w a = some x) : w.cell? (a.add 0) = some (.string x.name) := (get?_iff.1 h) _ _ (lk59_0 x)
theorem GAuctionResult.at_winner {w : World} {a : Addr} {x : GAuctionResult} (h : get? GAuctionResult w a = some x) : w.cell? (a.add 1) = some (.int .i64 x.winner) := (get?_iff.1 h) _ _ (lk59_1 x)
theorem GAuctionResult.at_price {w : World} {a : Addr} {x : GAuctionResult} (h : get? GAuctionResult w a = some x) : w.cell? (a.add 2) = some (.int .i64 x.price) := (get?_iff.1 h) _ _ (lk59_2 x)
@[go_sem] theorem nl59_0 (x : GAuctionResult) : x.enc[0]? = some (.string x.name) := by
  have h := (GAuctionResult.at_name (get?_new (w := (default : World)) 59 x))
  simp only [Addr.add_lit, Nat.zero_add, Nat.reduceAdd, World.cell?_alloc_new, List.getElem?_toArray] at h
  exact h
@[go_sem] theorem nl59_1 (x : GAuctionResult) : x.enc[1]? = some (.int .i64 x.winner) := by
  have h := (GAuctionResult.at_winner (get?_new (w := (default : World)) 59 x))
  simp only [Addr.add_lit, Nat.zero_add, Nat.reduceAdd, World.cell?_alloc_new, List.getElem?_toArray] at h
  exact h
@[go_sem] theorem nl59_2 (x : GAuctionResult) : x.enc[2]? = some (.int .i64 x.price) := by
  have h := (GAuctionResult.at_price (get?_new (w := (default : World)) 59 x))
  simp only [Addr.add_lit, Nat.zero_add, Nat.reduceAdd, World.cell?_alloc_new, List.getElem?_toArray] at h
  exact h
@[go_sem] theorem nw59 (w : World) (n : Nat) (x : GAuctionResult) (hn : n = w.heap.size) : get? GAuctionResult (w.alloc (.cells (GAuctionResult.enc x).toArray 59)) ⟨n, 0, none⟩ = some x := by
  subst hn; exact get?_new 59 x
theorem pl59 : ((Try.prog.fieldsOf 59).toList.mapM fun f => (Try.prog.info? f.type).map fun i => (f.offset, i.size)) = some [(0, 1), (1, 1), (2, 1)] := by kernel_rfl
theorem fs59_0 (x : GAuctionResult) (v : ByteArray) (rest : List (Nat × Value)) : Instr.fill (fun i => ([(0, 1), (1, 1), (2, 1)] : List (Nat × Nat))[i]?) x.enc.toArray ((0, (.string v)) :: rest) = Instr.fill (fun i => ([(0, 1), (1, 1), (2, 1)] : List (Nat × Nat))[i]?) ({ x with name := v } : GAuctionResult).enc.toArray rest := by
  have h := fill_seg [(0, 1), (1, 1), (2, 1)] 0 0 1 rfl (([] : List Value)) ([(.string x.name)]) ([(.int .i64 x.winner)] ++ ([(.int .i64 x.price)] ++ (([] : List Value)))) ([(.string v)]) (.string v) rest (rfl) (by simp) (by simp) (by simp)
  have e1 : x.enc = (([] : List Value)) ++ ([(.string x.name)] ++ ([(.int .i64 x.winner)] ++ ([(.int .i64 x.price)] ++ (([] : List Value))))) := by simp [GAuctionResult.enc]
  have e2 : ({ x with name := v } : GAuctionResult).enc = (([] : List Value)) ++ ([(.string v)] ++ ([(.int .i64 x.winner)] ++ ([(.int .i64 x.price)] ++ (([] : List Value))))) := by simp [GAuctionResult.enc]
  rw [e1, e2]; exact h
theorem fs59_1 (x : GAuctionResult) (v : Int) (rest : List (Nat × Value)) : Instr.fill (fun i => ([(0, 1), (1, 1), (2, 1)] : List (Nat × Nat))[i]?) x.enc.toArray ((1, (.int .i64 v)) :: rest) = Instr.fill (fun i => ([(0, 1), (1, 1), (2, 1)] : List (Nat × Nat))[i]?) ({ x with winner := v } : GAuctionResult).enc.toArray rest := by
  have h := fill_seg [(0, 1), (1, 1), (2, 1)] 1 1 1 rfl (([] : List Value) ++ ([(.string x.name)])) ([(.int .i64 x.winner)]) ([(.int .i64 x.price)] ++ (([] : List Value))) ([(.int .i64 v)]) (.int .i64 v) rest (rfl) (by simp) (by simp) (by simp)
  have e1 : x.enc = (([] : List Value) ++ ([(.string x.name)])) ++ ([(.int .i64 x.winner)] ++ ([(.int .i64 x.price)] ++ (([] : List Value)))) := by simp [GAuctionResult.enc]
  have e2 : ({ x with winner := v } : GAuctionResult).enc = (([] : List Value) ++ ([(.string x.name)])) ++ ([(.int .i64 v)] ++ ([(.int .i64 x.price)] ++ (([] : List Value)))) := by simp [GAuctionResult.enc]
  rw [e1, e2]; exact h
theorem fs59_2 (x : GAuctionResult) (v : Int) (rest : List (Nat × Value)) : Instr.fill (fun i => ([(0, 1), (1, 1), (2, 1)] : List (Nat × Nat))[i]?) x.enc.toArray ((2, (.int .i64 v)) :: rest) = Instr.fill (fun i => ([(0, 1), (1, 1), (2, 1)] : List (Nat × Nat))[i]?) ({ x with price := v } : GAuctionResult).enc.toArray rest := by
  have h := fill_seg [(0, 1), (1, 1), (2, 1)] 2 2 1 rfl (([] : List Value) ++ ([(.string x.name)] ++ ([(.int .i64 x.winner)]))) ([(.int .i64 x.price)]) (([] : List Value)) ([(.int .i64 v)]) (.int .i64 v) rest (rfl) (by simp) (by simp) (by simp)
  have e1 : x.enc = (([] : List Value) ++ ([(.string x.name)] ++ ([(.int .i64 x.winner)]))) ++ ([(.int .i64 x.price)] ++ (([] : List Value))) := by simp [GAuctionResult.enc]
  have e2 : ({ x with price := v } : GAuctionResult).enc = (([] : List Value) ++ ([(.string x.name)] ++ ([(.int .i64 x.winner)]))) ++ ([(.int .i64 v)] ++ (([] : List Value))) := by simp [GAuctionResult.enc]
  rw [e1, e2]; exact h
@[go_sem ↓ high] theorem xd_GAuctionResult (ρ : Operand → Value) (dst : Option Tmp) (ps : Array (Nat × Operand)) (ty : TypeId) (pos : String) (after : Array Edge) (guard : Option (Nat × Bool)) : execOp ρ { dst, op := .build 59 ps, type := ty, pos, after, guard } = (do pure (.value (← gBuild 59 (ps.map fun (i, x) => (i, ρ x))))) := ex_build ..
@[go_sem ↓ high] theorem bd59_0 (w : World) (v0 : ByteArray) (v1 : Int) : (gBuild 59 #[(0, (.string v0)), (1, (.int .i64 v1))]).run Try.prog w = .ok (GAuctionResult.val ⟨v0, v1, 0⟩) w := by
  rw [GAuctionResult.val_eq]
  refine run_gBuild_of uu59 zr59 pl59 ?_ w
  show Instr.fill _ (GAuctionResult.enc default).toArray [(0, (.string v0)), (1, (.int .i64 v1))] = _
  rw [fs59_0, fs59_1]; rfl
@[go_sem ↓ high] theorem bd59_1 (w : World) (v0 : ByteArray) (v1 : Int) (v2 : Int) : (gBuild 59 #[(0, (.string v0)), (1, (.int .i64 v1)), (2, (.int .i64 v2))]).run Try.prog w = .ok (GAuctionResult.val ⟨v0, v1, v2⟩) w := by
  rw [GAuctionResult.val_eq]
  refine run_gBuild_of uu59 zr59 pl59 ?_ w
  show Instr.fill _ (GAuctionResult.enc default).toArray [(0, (.string v0)), (1, (.int .i64 v1)), (2, (.int .i64 v2))] = _
  rw [fs59_0, fs59_1, fs59_2]; rfl
theorem eq_GAuctionResult (w : World) (d : Nat) (x y : GAuctionResult) : (Op.equalIn (d + 2) 59 (GAuctionResult.val x) (GAuctionResult.val y)).run Try.prog w = .ok (decide (x = y)) w := by
  have q0 : ∀ a b, (Op.equalIn (d + 1) 9 (.string a) (.string b)).run Try.prog w = .ok (decide (a = b)) w := fun a b => by rw [run_equalIn_string w (d + 0) 9 a b uk9, bytes_beq]
  have q1 : ∀ a b, (Op.equalIn (d + 1) 3 (.int .i64 a) (.int .i64 b)).run Try.prog w = .ok (decide (a = b)) w := fun a b => by rw [run_equalIn_int w (d + 0) 3 .i64 .i64 a b uk3]; congr 1
  have q2 : ∀ a b, (Op.equalIn (d + 1) 3 (.int .i64 a) (.int .i64 b)).run Try.prog w = .ok (decide (a = b)) w := fun a b => by rw [run_equalIn_int w (d + 0) 3 .i64 .i64 a b uk3]; congr 1
  have h := run_equalIn_fields (d + 1) x.enc.toArray y.enc.toArray w uu59 st59 nb59
  rw [fl59] at h
  unfold GAuctionResult.val
  refine h.trans ?_
  clear h
  simp only [eqFs, Sem.run_bind, pt59_0, pt59_1, pt59_2, q0, q1, q2, Result.andThen_ok, Sem.run_ite, Sem.run_pure]
  have he : decide (x = y) = (decide (x.name = y.name) && (decide (x.winner = y.winner) && (decide (x.price = y.price)))) := by
    rw [Bool.eq_iff_iff]; simp only [Bool.and_eq_true, decide_eq_true_eq]; exact GAuctionResult.ext_all x y
  rw [he]
  generalize decide (x.name = y.name) = c0; generalize decide (x.winner = y.winner) = c1; generalize decide (x.price = y.price) = c2
  cases c0 <;> cases c1 <;> cases c2 <;> simp
@[go_sem ↓ high] theorem xq_GAuctionResult (ρ : Operand → Value) (dst : Option Tmp) (x y : Operand) (ty yt : TypeId) (pos : String) (after : Array Edge) (guard : Option (Nat × Bool)) : execOp ρ { dst, op := .binOp .eql 59 x y yt, type := ty, pos, after, guard } = (do pure (.value (← gBin .eql 59 x y (ρ x) (ρ y)))) := ex_eql ..
@[go_sem ↓ high] theorem xn_GAuctionResult (ρ : Operand → Value) (dst : Option Tmp) (x y : Operand) (ty yt : TypeId) (pos : String) (after : Array Edge) (guard : Option (Nat × Bool)) : execOp ρ { dst, op := .binOp .neq 59 x y yt, type := ty, pos, after, guard } = (do pure (.value (← gBin .neq 59 x y (ρ x) (ρ y)))) := ex_neq ..
theorem eg_GAuctionResult : Try.prog.eqGuardType Try.prog.depth 59 = false := by kernel_rfl
@[go_sem ↓ high] theorem eql_GAuctionResult (w : World) (ox oy : Operand) (x y : GAuctionResult) : (gBin .eql 59 ox oy (GAuctionResult.val x) (GAuctionResult.val y)).run Try.prog w = .ok (.bool (decide (x = y))) w := by
  have h2 := eq_GAuctionResult w 9998 x y
  rw [GAuctionResult.val_eq, GAuctionResult.val_eq] at h2 ⊢
  have h := run_eqGuard_agg (P := Try.prog) w .eql 59 ox oy (Enc.enc x).toArray (Enc.enc y).toArray eg_GAuctionResult
  unfold gBin
  simp only [Sem.run_bind, h, Result.andThen_ok, run_eql_struct, h2]
@[go_sem ↓ high] theorem neq_GAuctionResult (w : World) (ox oy : Operand) (x y : GAuctionResult) : (gBin .neq 59 ox oy (GAuctionResult.val x) (GAuctionResult.val y)).run Try.prog w = .ok (.bool (!decide (x = y))) w := by
  have h2 := eq_GAuctionResult w 9998 x y
  rw [GAuctionResult.val_eq, GAuctionResult.val_eq] at h2 ⊢
  have h := run_eqGuard_agg (P := Try.prog) w .neq 59 ox oy (Enc.enc x).toArray (Enc.enc y).toArray eg_GAuctionResult
  unfold gBin
  simp only [Sem.run_bind, h, Result.andThen_ok, run_neq_struct, h2]

/-! ### gavel/auction.sale -/
structure GAuctionSale where
  name : ByteArray
  vickrey : Bool
  reserve : Int
  close : Int
  bids : Hdr
  settled : Bool
  result : GAuctionResult
deriving DecidableEq
instance : Inhabited GAuctionSale := ⟨⟨ByteArray.empty, false, 0, 0, default, false, default⟩⟩
def GAuctionSale.enc (x : GAuctionSale) : List Value := [(.string x.name)] ++ ([(.bool x.vickrey)] ++ ([(.int .i64 x.reserve)] ++ ([(.int .u64 x.close)] ++ ([(x.bids.val)] ++ ([(.bool x.settled)] ++ (x.result.enc))))))
theorem GAuctionSale.enc_len (x : GAuctionSale) : x.enc.length = 9 := by simp [GAuctionSale.enc, GAuctionResult.enc_len]
theorem GAuctionSale.enc_one (x : GAuctionSale) : ∀ u ∈ x.enc, u.oneCell' = true := by
  intro u hu
  simp only [GAuctionSale.enc, List.mem_append, List.mem_singleton] at hu
  rcases hu with hu | hu | hu | hu | hu | hu | hu
  · subst hu; rfl
  · subst hu; rfl
  · subst hu; rfl
  · subst hu; rfl
  · subst hu; rfl
  · subst hu; rfl
  · exact Enc.one (α := GAuctionResult) _ _ hu
theorem GAuctionSale.enc_inj (x y : GAuctionSale) (h : x.enc = y.enc) : x = y := by
  obtain ⟨a0, a1, a2, a3, a4, a5, a6⟩ := x
  obtain ⟨b0, b1, b2, b3, b4, b5, b6⟩ := y
  simp only [GAuctionSale.enc] at h
  obtain ⟨p0, q0⟩ := List.append_inj h (rfl)
  have e0 : a0 = b0 := by have := List.head_eq_of_cons_eq p0; injection this
  obtain ⟨p1, q1⟩ := List.append_inj q0 (rfl)
  have e1 : a1 = b1 := by have := List.head_eq_of_cons_eq p1; injection this
  obtain ⟨p2, q2⟩ := List.append_inj q1 (rfl)
  have e2 : a2 = b2 := by have := List.head_eq_of_cons_eq p2; injection this
  obtain ⟨p3, q3⟩ := List.append_inj q2 (rfl)
  have e3 : a3 = b3 := by have := List.head_eq_of_cons_eq p3; injection this
  obtain ⟨p4, q4⟩ := List.append_inj q3 (rfl)
  have e4 : a4 = b4 := Enc.inj (α := Hdr) _ _ p4
  obtain ⟨p5, q5⟩ := List.append_inj q4 (rfl)
  have e5 : a5 = b5 := by have := List.head_eq_of_cons_eq p5; injection this
  have e6 := Enc.inj (α := GAuctionResult) _ _ q5
  rw [e0, e1, e2, e3, e4, e5, e6]
instance : Enc GAuctionSale where
  n := 9
  enc := GAuctionSale.enc
  pos := by omega
  len := GAuctionSale.enc_len
  one := GAuctionSale.enc_one
  inj := GAuctionSale.enc_inj
@[go_sem] theorem GAuctionSale.n_eq : Enc.n GAuctionSale = 9 := rfl
@[irreducible] def GAuctionSale.val (x : GAuctionSale) : Value := .agg x.enc.toArray
theorem GAuctionSale.val_eq (x : GAuctionSale) : GAuctionSale.val x = .agg (Enc.enc x).toArray := by unfold GAuctionSale.val; rfl
theorem GAuctionSale.ext_all (x y : GAuctionSale) : x = y ↔ x.name = y.name ∧ x.vickrey = y.vickrey ∧ x.reserve = y.reserve ∧ x.close = y.close ∧ x.bids = y.bids ∧ x.settled = y.settled ∧ x.result = y.result := by
  constructor
  · intro h; cases h; simp
  · intro h; cases x; cases y; simp_all
theorem uu146 : Try.prog.underlying 146 = some (.struct (Try.prog.fieldsOf 146)) := by kernel_rfl
theorem st146 : Try.prog.stoodInHeld 146 = false := by kernel_rfl
theorem fl146 : fieldTO Try.prog 146 = [(9, 0), (4, 1), (3, 2), (28, 3), (144, 4), (4, 5), (59, 6)] := by kernel_rfl
theorem nb146 : noBlank Try.prog 146 = true := by kernel_rfl
@[go_sem ↓ high] theorem xl_GAuctionSale (ρ : Operand → Value) (dst : Option Tmp) (x : Operand) (ty : TypeId) (pos : String) (after : Array Edge) (guard : Option (Nat × Bool)) : execOp ρ { dst, op := .load 146 x, type := ty, pos, after, guard } = (do pure (.value (← gLoad 146 (ρ x)))) := ex_load ..
@[go_sem ↓ high] theorem xs_GAuctionSale (ρ : Operand → Value) (dst : Option Tmp) (x y : Operand) (ty : TypeId) (pos : String) (after : Array Edge) (guard : Option (Nat × Bool)) : execOp ρ { dst, op := .store 146 x y, type := ty, pos, after, guard } = (do gStore 146 (ρ x) (ρ y); pure .skip) := ex_store ..
@[go_sem ↓ high] theorem xb_GAuctionSale (ρ : Operand → Value) (dst : Option Tmp) (x : Operand) (ty : TypeId) (pos : String) (after : Array Edge) (guard : Option (Nat × Bool)) : execOp ρ { dst, op := .box 146 x, type := ty, pos, after, guard } = (do pure (.value (← gBox 146 (ρ x)))) := ex_box ..
@[go_sem ↓ high] theorem xa_GAuctionSale (ρ : Operand → Value) (dst : Option Tmp) (ty : TypeId) (pos : String) (after : Array Edge) (guard : Option (Nat × Bool)) : execOp ρ { dst, op := .alloc 146, type := ty, pos, after, guard } = (do pure (.value (← gAlloc 146))) := ex_alloc ..
theorem ag146 : aggT Try.prog 146 = true := by kernel_rfl
theorem sz146 : sizeT Try.prog 146 = 9 := by kernel_rfl
section
variable (w : World)
@[go_sem ↓ high] theorem ld_GAuctionSale (a : Addr) : (gLoad 146 (.pointer (some a))).run Try.prog w = ofOpt ((get? GAuctionSale w a).map GAuctionSale.val) w (noLoad Try.prog 146 a w) := by
  unfold gLoad; exact run_loadAt_opt ag146 sz146 GAuctionSale.val GAuctionSale.val_eq
@[go_sem ↓ high] theorem st_GAuctionSale (a : Addr) (x : GAuctionSale) : (gStore 146 (.pointer (some a)) (GAuctionSale.val x)).run Try.prog w = okU' ((get? GAuctionSale w a).isSome && blkFree w a.block) (World.putCells w a (GAuctionSale.enc x)) (noStore Try.prog 146 (.pointer (some a)) (GAuctionSale.val x) w) := run_gStore_any sz146 GAuctionSale.val GAuctionSale.val_eq w a x
@[go_sem ↓ high] theorem bx_GAuctionSale (x : GAuctionSale) : (gBox 146 (GAuctionSale.val x)).run Try.prog w = .ok (.pointer (some ⟨w.heap.size, 0, none⟩)) (w.alloc (.cells (GAuctionSale.enc x).toArray 146)) := by
  rw [GAuctionSale.val_eq]; exact run_gBox _ w
end
theorem lk146_0 (x : GAuctionSale) : x.enc[0]? = some (.string x.name) := by
  simp [GAuctionSale.enc, List.getElem?_append]
theorem pt146_0 (w : World) (x : GAuctionSale) : (part 9 x.enc.toArray 0).run Try.prog w = .ok (.string x.name) w := run_part_one na9 us9 (lk146_0 x)
@[go_sem ↓ high] theorem fd146_0 (w : World) (x : GAuctionSale) : (gField 146 (GAuctionSale.val x) 0).run Try.prog w = .ok (.string x.name) w := by
  rw [GAuctionSale.val_eq]
  exact run_gField w uu146 (by rw [fl146]; rfl) (pt146_0 w x)
theorem lk146_1 (x : GAuctionSale) : x.enc[1]? = some (.bool x.vickrey) := by
  simp [GAuctionSale.enc, List.getElem?_append]
theorem pt146_1 (w : World) (x : GAuctionSale) : (part 4 x.enc.toArray 1).run Try.prog w = .ok (.bool x.vickrey) w := run_part_one na4 us4 (lk146_1 x)
@[go_sem ↓ high] theorem fd146_1 (w : World) (x : GAuctionSale) : (gField 146 (GAuctionSale.val x) 1).run Try.prog w = .ok (.bool x.vickrey) w := by
  rw [GAuctionSale.val_eq]
  exact run_gField w uu146 (by rw [fl146]; rfl) (pt146_1 w x)
theorem lk146_2 (x : GAuctionSale) : x.enc[2]? = some (.int .i64 x.reserve) := by
  simp [GAuctionSale.enc, List.getElem?_append]
theorem pt146_2 (w : World) (x : GAuctionSale) : (part 3 x.enc.toArray 2).run Try.prog w = .ok (.int .i64 x.reserve) w := run_part_one na3 us3 (lk146_2 x)
@[go_sem ↓ high] theorem fd146_2 (w : World) (x : GAuctionSale) : (gField 146 (GAuctionSale.val x) 2).run Try.prog w = .ok (.int .i64 x.reserve) w := by
  rw [GAuctionSale.val_eq]
  exact run_gField w uu146 (by rw [fl146]; rfl) (pt146_2 w x)
theorem lk146_3 (x : GAuctionSale) : x.enc[3]? = some (.int .u64 x.close) := by
  simp [GAuctionSale.enc, List.getElem?_append]
theorem pt146_3 (w : World) (x : GAuctionSale) : (part 28 x.enc.toArray 3).run Try.prog w = .ok (.int .u64 x.close) w := run_part_one na28 us28 (lk146_3 x)
@[go_sem ↓ high] theorem fd146_3 (w : World) (x : GAuctionSale) : (gField 146 (GAuctionSale.val x) 3).run Try.prog w = .ok (.int .u64 x.close) w := by
  rw [GAuctionSale.val_eq]
  exact run_gField w uu146 (by rw [fl146]; rfl) (pt146_3 w x)
theorem lk146_4 (x : GAuctionSale) : x.enc[4]? = some (x.bids.val) := by
  simp [GAuctionSale.enc, List.getElem?_append]
theorem pt146_4 (w : World) (x : GAuctionSale) : (part 144 x.enc.toArray 4).run Try.prog w = .ok (x.bids.val) w := run_part_one na144 us144 (lk146_4 x)
@[go_sem ↓ high] theorem fd146_4 (w : World) (x : GAuctionSale) : (gField 146 (GAuctionSale.val x) 4).run Try.prog w = .ok (x.bids.val) w := by
  rw [GAuctionSale.val_eq]
  exact run_gField w uu146 (by rw [fl146]; rfl) (pt146_4 w x)
theorem lk146_5 (x : GAuctionSale) : x.enc[5]? = some (.bool x.settled) := by
  simp [GAuctionSale.enc, List.getElem?_append]
theorem pt146_5 (w : World) (x : GAuctionSale) : (part 4 x.enc.toArray 5).run Try.prog w = .ok (.bool x.settled) w := run_part_one na4 us4 (lk146_5 x)
@[go_sem ↓ high] theorem fd146_5 (w : World) (x : GAuctionSale) : (gField 146 (GAuctionSale.val x) 5).run Try.prog w = .ok (.bool x.settled) w := by
  rw [GAuctionSale.val_eq]
  exact run_gField w uu146 (by rw [fl146]; rfl) (pt146_5 w x)
theorem ds146_6 (x : GAuctionSale) : (x.enc.drop 6).take 3 = x.result.enc := by
  unfold GAuctionSale.enc
  simp [List.drop_append, List.drop_eq_nil_of_le]
  exact List.take_of_length_le (by simp [GAuctionResult.enc_len])
theorem pt146_6 (w : World) (x : GAuctionSale) : (part 59 x.enc.toArray 6).run Try.prog w = .ok (x.result.val) w := by
  have h := run_part_agg (P := Try.prog) (w := w) (cs := x.enc) (ds := x.result.enc) (off := 6) ag59 (by rw [GAuctionResult.enc_len]; exact sz59) (by simp [GAuctionResult.enc_len]) (by rw [GAuctionResult.enc_len]; exact ds146_6 x)
  rw [h, GAuctionResult.val_eq]; rfl
@[go_sem ↓ high] theorem fd146_6 (w : World) (x : GAuctionSale) : (gField 146 (GAuctionSale.val x) 6).run Try.prog w = .ok (x.result.val) w := by
  rw [GAuctionSale.val_eq]
  exact run_gField w uu146 (by rw [fl146]; rfl) (pt146_6 w x)
@[go_sem ↓ high] theorem xf_GAuctionSale (ρ : Operand → Value) (dst : Option Tmp) (x : Operand) (i : Nat) (ty : TypeId) (pos : String) (after : Array Edge) (guard : Option (Nat × Bool)) : execOp ρ { dst, op := .field 146 x i, type := ty, pos, after, guard } = (do pure (.value (← gField 146 (ρ x) i))) := ex_field ..
theorem zr146 : zeroT Try.prog 146 = some (.agg (GAuctionSale.enc default).toArray) := by kernel_rfl
@[go_sem ↓ high] theorem al_GAuctionSale (w : World) : (gAlloc 146).run Try.prog w = .ok (.pointer (some ⟨w.heap.size, 0, none⟩)) (w.alloc (.cells (GAuctionSale.enc default).toArray 146)) := run_zero_alloc zr146 w
@[go_sem] theorem pc_GAuctionSale (w : World) (n : Nat) (x z : GAuctionSale) (hn : n = w.heap.size) : World.putCells (w.alloc (.cells (GAuctionSale.enc z).toArray 146)) ⟨n, 0, none⟩ (GAuctionSale.enc x) = w.alloc (.cells (GAuctionSale.enc x).toArray 146) := putCells_top x z hn
theorem GAuctionSale.at_name {w : World} {a : Addr} {x : GAuctionSale} (h : get? GAuctionSale w a = some x) : w.cell? (a.add 0) = some (.string x.name) := (get?_iff.1 h) _ _ (lk146_0 x)
theorem GAuctionSale.at_vickrey {w : World} {a : Addr} {x : GAuctionSale} (h : get? GAuctionSale w a = some x) : w.cell? (a.add 1) = some (.bool x.vickrey) := (get?_iff.1 h) _ _ (lk146_1 x)
theorem GAuctionSale.at_reserve {w : World} {a : Addr} {x : GAuctionSale} (h : get? GAuctionSale w a = some x) : w.cell? (a.add 2) = some (.int .i64 x.reserve) := (get?_iff.1 h) _ _ (lk146_2 x)
theorem GAuctionSale.at_close {w : World} {a : Addr} {x : GAuctionSale} (h : get? GAuctionSale w a = some x) : w.cell? (a.add 3) = some (.int .u64 x.close) := (get?_iff.1 h) _ _ (lk146_3 x)
theorem GAuctionSale.at_bids {w : World} {a : Addr} {x : GAuctionSale} (h : get? GAuctionSale w a = some x) : w.cell? (a.add 4) = some (x.bids.val) := (get?_iff.1 h) _ _ (lk146_4 x)
theorem GAuctionSale.at_settled {w : World} {a : Addr} {x : GAuctionSale} (h : get? GAuctionSale w a = some x) : w.cell? (a.add 5) = some (.bool x.settled) := (get?_iff.1 h) _ _ (lk146_5 x)
theorem GAuctionSale.at_result {w : World} {a : Addr} {x : GAuctionSale} (h : get? GAuctionSale w a = some x) : get? GAuctionResult w (a.add 6) = some x.result := by
  rw [get?_iff] at h ⊢
  refine h.sub 6 fun j v hv => ?_
  have hd := ds146_6 x
  have hj : j < 3 := by have := (List.getElem?_eq_some_iff.1 hv).1; rwa [Enc.len] at this
  show x.enc[6 + j]? = some v
  rw [← List.getElem?_drop, ← List.getElem?_take_of_lt hj, hd]; exact hv
@[go_sem] theorem nl146_0 (x : GAuctionSale) : x.enc[0]? = some (.string x.name) := by
  have h := (GAuctionSale.at_name (get?_new (w := (default : World)) 146 x))
  simp only [Addr.add_lit, Nat.zero_add, Nat.reduceAdd, World.cell?_alloc_new, List.getElem?_toArray] at h
  exact h
@[go_sem] theorem nl146_1 (x : GAuctionSale) : x.enc[1]? = some (.bool x.vickrey) := by
  have h := (GAuctionSale.at_vickrey (get?_new (w := (default : World)) 146 x))
  simp only [Addr.add_lit, Nat.zero_add, Nat.reduceAdd, World.cell?_alloc_new, List.getElem?_toArray] at h
  exact h
@[go_sem] theorem nl146_2 (x : GAuctionSale) : x.enc[2]? = some (.int .i64 x.reserve) := by
  have h := (GAuctionSale.at_reserve (get?_new (w := (default : World)) 146 x))
  simp only [Addr.add_lit, Nat.zero_add, Nat.reduceAdd, World.cell?_alloc_new, List.getElem?_toArray] at h
  exact h
@[go_sem] theorem nl146_3 (x : GAuctionSale) : x.enc[3]? = some (.int .u64 x.close) := by
  have h := (GAuctionSale.at_close (get?_new (w := (default : World)) 146 x))
  simp only [Addr.add_lit, Nat.zero_add, Nat.reduceAdd, World.cell?_alloc_new, List.getElem?_toArray] at h
  exact h
@[go_sem] theorem nl146_4 (x : GAuctionSale) : x.enc[4]? = some (x.bids.val) := by
  have h := (GAuctionSale.at_bids (get?_new (w := (default : World)) 146 x))
  simp only [Addr.add_lit, Nat.zero_add, Nat.reduceAdd, World.cell?_alloc_new, List.getElem?_toArray] at h
  exact h
@[go_sem] theorem nl146_5 (x : GAuctionSale) : x.enc[5]? = some (.bool x.settled) := by
  have h := (GAuctionSale.at_settled (get?_new (w := (default : World)) 146 x))
  simp only [Addr.add_lit, Nat.zero_add, Nat.reduceAdd, World.cell?_alloc_new, List.getElem?_toArray] at h
  exact h
@[go_sem] theorem nw146_6_GAuctionResult (w : World) (n : Nat) (x : GAuctionSale) (hn : n = w.heap.size) : get? GAuctionResult (w.alloc (.cells (GAuctionSale.enc x).toArray 146)) ⟨n, 6, none⟩ = some x.result := by
  subst hn
  have h := (GAuctionSale.at_result (get?_new (w := w) 146 x))
  simp only [Addr.add_lit, Nat.zero_add, Nat.reduceAdd] at h
  exact h
@[go_sem] theorem nl146_6 (x : GAuctionSale) : x.enc[6]? = some (.string x.result.name) := by
  have h := (GAuctionResult.at_name (GAuctionSale.at_result (get?_new (w := (default : World)) 146 x)))
  simp only [Addr.add_lit, Nat.zero_add, Nat.reduceAdd, World.cell?_alloc_new, List.getElem?_toArray] at h
  exact h
@[go_sem] theorem nl146_7 (x : GAuctionSale) : x.enc[7]? = some (.int .i64 x.result.winner) := by
  have h := (GAuctionResult.at_winner (GAuctionSale.at_result (get?_new (w := (default : World)) 146 x)))
  simp only [Addr.add_lit, Nat.zero_add, Nat.reduceAdd, World.cell?_alloc_new, List.getElem?_toArray] at h
  exact h
@[go_sem] theorem nl146_8 (x : GAuctionSale) : x.enc[8]? = some (.int .i64 x.result.price) := by
  have h := (GAuctionResult.at_price (GAuctionSale.at_result (get?_new (w := (default : World)) 146 x)))
  simp only [Addr.add_lit, Nat.zero_add, Nat.reduceAdd, World.cell?_alloc_new, List.getElem?_toArray] at h
  exact h
@[go_sem] theorem nw146 (w : World) (n : Nat) (x : GAuctionSale) (hn : n = w.heap.size) : get? GAuctionSale (w.alloc (.cells (GAuctionSale.enc x).toArray 146)) ⟨n, 0, none⟩ = some x := by
  subst hn; exact get?_new 146 x
theorem pl146 : ((Try.prog.fieldsOf 146).toList.mapM fun f => (Try.prog.info? f.type).map fun i => (f.offset, i.size)) = some [(0, 1), (1, 1), (2, 1), (3, 1), (4, 1), (5, 1), (6, 3)] := by kernel_rfl
theorem fs146_0 (x : GAuctionSale) (v : ByteArray) (rest : List (Nat × Value)) : Instr.fill (fun i => ([(0, 1), (1, 1), (2, 1), (3, 1), (4, 1), (5, 1), (6, 3)] : List (Nat × Nat))[i]?) x.enc.toArray ((0, (.string v)) :: rest) = Instr.fill (fun i => ([(0, 1), (1, 1), (2, 1), (3, 1), (4, 1), (5, 1), (6, 3)] : List (Nat × Nat))[i]?) ({ x with name := v } : GAuctionSale).enc.toArray rest := by
  have h := fill_seg [(0, 1), (1, 1), (2, 1), (3, 1), (4, 1), (5, 1), (6, 3)] 0 0 1 rfl (([] : List Value)) ([(.string x.name)]) ([(.bool x.vickrey)] ++ ([(.int .i64 x.reserve)] ++ ([(.int .u64 x.close)] ++ ([(x.bids.val)] ++ ([(.bool x.settled)] ++ (x.result.enc ++ (([] : List Value)))))))) ([(.string v)]) (.string v) rest (rfl) (by simp [GAuctionResult.enc_len]) (by simp [GAuctionResult.enc_len]) (by simp [GAuctionResult.enc_len])
  have e1 : x.enc = (([] : List Value)) ++ ([(.string x.name)] ++ ([(.bool x.vickrey)] ++ ([(.int .i64 x.reserve)] ++ ([(.int .u64 x.close)] ++ ([(x.bids.val)] ++ ([(.bool x.settled)] ++ (x.result.enc ++ (([] : List Value))))))))) := by simp [GAuctionSale.enc]
  have e2 : ({ x with name := v } : GAuctionSale).enc = (([] : List Value)) ++ ([(.string v)] ++ ([(.bool x.vickrey)] ++ ([(.int .i64 x.reserve)] ++ ([(.int .u64 x.close)] ++ ([(x.bids.val)] ++ ([(.bool x.settled)] ++ (x.result.enc ++ (([] : List Value))))))))) := by simp [GAuctionSale.enc]
  rw [e1, e2]; exact h
theorem fs146_1 (x : GAuctionSale) (v : Bool) (rest : List (Nat × Value)) : Instr.fill (fun i => ([(0, 1), (1, 1), (2, 1), (3, 1), (4, 1), (5, 1), (6, 3)] : List (Nat × Nat))[i]?) x.enc.toArray ((1, (.bool v)) :: rest) = Instr.fill (fun i => ([(0, 1), (1, 1), (2, 1), (3, 1), (4, 1), (5, 1), (6, 3)] : List (Nat × Nat))[i]?) ({ x with vickrey := v } : GAuctionSale).enc.toArray rest := by
  have h := fill_seg [(0, 1), (1, 1), (2, 1), (3, 1), (4, 1), (5, 1), (6, 3)] 1 1 1 rfl (([] : List Value) ++ ([(.string x.name)])) ([(.bool x.vickrey)]) ([(.int .i64 x.reserve)] ++ ([(.int .u64 x.close)] ++ ([(x.bids.val)] ++ ([(.bool x.settled)] ++ (x.result.enc ++ (([] : List Value))))))) ([(.bool v)]) (.bool v) rest (rfl) (by simp [GAuctionResult.enc_len]) (by simp [GAuctionResult.enc_len]) (by simp [GAuctionResult.enc_len])
  have e1 : x.enc = (([] : List Value) ++ ([(.string x.name)])) ++ ([(.bool x.vickrey)] ++ ([(.int .i64 x.reserve)] ++ ([(.int .u64 x.close)] ++ ([(x.bids.val)] ++ ([(.bool x.settled)] ++ (x.result.enc ++ (([] : List Value)))))))) := by simp [GAuctionSale.enc]
  have e2 : ({ x with vickrey := v } : GAuctionSale).enc = (([] : List Value) ++ ([(.string x.name)])) ++ ([(.bool v)] ++ ([(.int .i64 x.reserve)] ++ ([(.int .u64 x.close)] ++ ([(x.bids.val)] ++ ([(.bool x.settled)] ++ (x.result.enc ++ (([] : List Value)))))))) := by simp [GAuctionSale.enc]
  rw [e1, e2]; exact h
theorem fs146_2 (x : GAuctionSale) (v : Int) (rest : List (Nat × Value)) : Instr.fill (fun i => ([(0, 1), (1, 1), (2, 1), (3, 1), (4, 1), (5, 1), (6, 3)] : List (Nat × Nat))[i]?) x.enc.toArray ((2, (.int .i64 v)) :: rest) = Instr.fill (fun i => ([(0, 1), (1, 1), (2, 1), (3, 1), (4, 1), (5, 1), (6, 3)] : List (Nat × Nat))[i]?) ({ x with reserve := v } : GAuctionSale).enc.toArray rest := by
  have h := fill_seg [(0, 1), (1, 1), (2, 1), (3, 1), (4, 1), (5, 1), (6, 3)] 2 2 1 rfl (([] : List Value) ++ ([(.string x.name)] ++ ([(.bool x.vickrey)]))) ([(.int .i64 x.reserve)]) ([(.int .u64 x.close)] ++ ([(x.bids.val)] ++ ([(.bool x.settled)] ++ (x.result.enc ++ (([] : List Value)))))) ([(.int .i64 v)]) (.int .i64 v) rest (rfl) (by simp [GAuctionResult.enc_len]) (by simp [GAuctionResult.enc_len]) (by simp [GAuctionResult.enc_len])
  have e1 : x.enc = (([] : List Value) ++ ([(.string x.name)] ++ ([(.bool x.vickrey)]))) ++ ([(.int .i64 x.reserve)] ++ ([(.int .u64 x.close)] ++ ([(x.bids.val)] ++ ([(.bool x.settled)] ++ (x.result.enc ++ (([] : List Value))))))) := by simp [GAuctionSale.enc]
  have e2 : ({ x with reserve := v } : GAuctionSale).enc = (([] : List Value) ++ ([(.string x.name)] ++ ([(.bool x.vickrey)]))) ++ ([(.int .i64 v)] ++ ([(.int .u64 x.close)] ++ ([(x.bids.val)] ++ ([(.bool x.settled)] ++ (x.result.enc ++ (([] : List Value))))))) := by simp [GAuctionSale.enc]
  rw [e1, e2]; exact h
theorem fs146_3 (x : GAuctionSale) (v : Int) (rest : List (Nat × Value)) : Instr.fill (fun i => ([(0, 1), (1, 1), (2, 1), (3, 1), (4, 1), (5, 1), (6, 3)] : List (Nat × Nat))[i]?) x.enc.toArray ((3, (.int .u64 v)) :: rest) = Instr.fill (fun i => ([(0, 1), (1, 1), (2, 1), (3, 1), (4, 1), (5, 1), (6, 3)] : List (Nat × Nat))[i]?) ({ x with close := v } : GAuctionSale).enc.toArray rest := by
  have h := fill_seg [(0, 1), (1, 1), (2, 1), (3, 1), (4, 1), (5, 1), (6, 3)] 3 3 1 rfl (([] : List Value) ++ ([(.string x.name)] ++ ([(.bool x.vickrey)] ++ ([(.int .i64 x.reserve)])))) ([(.int .u64 x.close)]) ([(x.bids.val)] ++ ([(.bool x.settled)] ++ (x.result.enc ++ (([] : List Value))))) ([(.int .u64 v)]) (.int .u64 v) rest (rfl) (by simp [GAuctionResult.enc_len]) (by simp [GAuctionResult.enc_len]) (by simp [GAuctionResult.enc_len])
  have e1 : x.enc = (([] : List Value) ++ ([(.string x.name)] ++ ([(.bool x.vickrey)] ++ ([(.int .i64 x.reserve)])))) ++ ([(.int .u64 x.close)] ++ ([(x.bids.val)] ++ ([(.bool x.settled)] ++ (x.result.enc ++ (([] : List Value)))))) := by simp [GAuctionSale.enc]
  have e2 : ({ x with close := v } : GAuctionSale).enc = (([] : List Value) ++ ([(.string x.name)] ++ ([(.bool x.vickrey)] ++ ([(.int .i64 x.reserve)])))) ++ ([(.int .u64 v)] ++ ([(x.bids.val)] ++ ([(.bool x.settled)] ++ (x.result.enc ++ (([] : List Value)))))) := by simp [GAuctionSale.enc]
  rw [e1, e2]; exact h
@[go_sem ↓ high] theorem xd_GAuctionSale (ρ : Operand → Value) (dst : Option Tmp) (ps : Array (Nat × Operand)) (ty : TypeId) (pos : String) (after : Array Edge) (guard : Option (Nat × Bool)) : execOp ρ { dst, op := .build 146 ps, type := ty, pos, after, guard } = (do pure (.value (← gBuild 146 (ps.map fun (i, x) => (i, ρ x))))) := ex_build ..
@[go_sem ↓ high] theorem bd146_0 (w : World) (v0 : ByteArray) (v1 : Bool) (v2 : Int) (v3 : Int) : (gBuild 146 #[(0, (.string v0)), (1, (.bool v1)), (2, (.int .i64 v2)), (3, (.int .u64 v3))]).run Try.prog w = .ok (GAuctionSale.val ⟨v0, v1, v2, v3, default, false, default⟩) w := by
  rw [GAuctionSale.val_eq]
  refine run_gBuild_of uu146 zr146 pl146 ?_ w
  show Instr.fill _ (GAuctionSale.enc default).toArray [(0, (.string v0)), (1, (.bool v1)), (2, (.int .i64 v2)), (3, (.int .u64 v3))] = _
  rw [fs146_0, fs146_1, fs146_2, fs146_3]; rfl

/-! ### gavel/auction.bid -/
structure GAuctionBid where
  client : Int
  amount : Int
deriving DecidableEq
instance : Inhabited GAuctionBid := ⟨⟨0, 0⟩⟩
def GAuctionBid.enc (x : GAuctionBid) : List Value := [(.int .i64 x.client)] ++ ([(.int .i64 x.amount)])
theorem GAuctionBid.enc_len (x : GAuctionBid) : x.enc.length = 2 := by simp [GAuctionBid.enc]
theorem GAuctionBid.enc_one (x : GAuctionBid) : ∀ u ∈ x.enc, u.oneCell' = true := by
  intro u hu
  simp only [GAuctionBid.enc, List.mem_append, List.mem_singleton] at hu
  rcases hu with hu | hu
  · subst hu; rfl
  · subst hu; rfl
theorem GAuctionBid.enc_inj (x y : GAuctionBid) (h : x.enc = y.enc) : x = y := by
  obtain ⟨a0, a1⟩ := x
  obtain ⟨b0, b1⟩ := y
  simp only [GAuctionBid.enc] at h
  obtain ⟨p0, q0⟩ := List.append_inj h (rfl)
  have e0 : a0 = b0 := by have := List.head_eq_of_cons_eq p0; injection this
  have e1 : a1 = b1 := by have := List.head_eq_of_cons_eq q0; injection this
  rw [e0, e1]
instance : Enc GAuctionBid where
  n := 2
  enc := GAuctionBid.enc
  pos := by omega
  len := GAuctionBid.enc_len
  one := GAuctionBid.enc_one
  inj := GAuctionBid.enc_inj
@[go_sem] theorem GAuctionBid.n_eq : Enc.n GAuctionBid = 2 := rfl
@[irreducible] def GAuctionBid.val (x : GAuctionBid) : Value := .agg x.enc.toArray
theorem GAuctionBid.val_eq (x : GAuctionBid) : GAuctionBid.val x = .agg (Enc.enc x).toArray := by unfold GAuctionBid.val; rfl
theorem GAuctionBid.ext_all (x y : GAuctionBid) : x = y ↔ x.client = y.client ∧ x.amount = y.amount := by
  constructor
  · intro h; cases h; simp
  · intro h; cases x; cases y; simp_all
theorem uu151 : Try.prog.underlying 151 = some (.struct (Try.prog.fieldsOf 151)) := by kernel_rfl
theorem st151 : Try.prog.stoodInHeld 151 = false := by kernel_rfl
theorem fl151 : fieldTO Try.prog 151 = [(3, 0), (3, 1)] := by kernel_rfl
theorem nb151 : noBlank Try.prog 151 = true := by kernel_rfl
@[go_sem ↓ high] theorem xl_GAuctionBid (ρ : Operand → Value) (dst : Option Tmp) (x : Operand) (ty : TypeId) (pos : String) (after : Array Edge) (guard : Option (Nat × Bool)) : execOp ρ { dst, op := .load 151 x, type := ty, pos, after, guard } = (do pure (.value (← gLoad 151 (ρ x)))) := ex_load ..
@[go_sem ↓ high] theorem xs_GAuctionBid (ρ : Operand → Value) (dst : Option Tmp) (x y : Operand) (ty : TypeId) (pos : String) (after : Array Edge) (guard : Option (Nat × Bool)) : execOp ρ { dst, op := .store 151 x y, type := ty, pos, after, guard } = (do gStore 151 (ρ x) (ρ y); pure .skip) := ex_store ..
@[go_sem ↓ high] theorem xb_GAuctionBid (ρ : Operand → Value) (dst : Option Tmp) (x : Operand) (ty : TypeId) (pos : String) (after : Array Edge) (guard : Option (Nat × Bool)) : execOp ρ { dst, op := .box 151 x, type := ty, pos, after, guard } = (do pure (.value (← gBox 151 (ρ x)))) := ex_box ..
@[go_sem ↓ high] theorem xa_GAuctionBid (ρ : Operand → Value) (dst : Option Tmp) (ty : TypeId) (pos : String) (after : Array Edge) (guard : Option (Nat × Bool)) : execOp ρ { dst, op := .alloc 151, type := ty, pos, after, guard } = (do pure (.value (← gAlloc 151))) := ex_alloc ..
theorem ag151 : aggT Try.prog 151 = true := by kernel_rfl
theorem sz151 : sizeT Try.prog 151 = 2 := by kernel_rfl
section
variable (w : World)
@[go_sem ↓ high] theorem ld_GAuctionBid (a : Addr) : (gLoad 151 (.pointer (some a))).run Try.prog w = ofOpt ((get? GAuctionBid w a).map GAuctionBid.val) w (noLoad Try.prog 151 a w) := by
  unfold gLoad; exact run_loadAt_opt ag151 sz151 GAuctionBid.val GAuctionBid.val_eq
@[go_sem ↓ high] theorem st_GAuctionBid (a : Addr) (x : GAuctionBid) : (gStore 151 (.pointer (some a)) (GAuctionBid.val x)).run Try.prog w = okU' ((get? GAuctionBid w a).isSome && blkFree w a.block) (World.putCells w a (GAuctionBid.enc x)) (noStore Try.prog 151 (.pointer (some a)) (GAuctionBid.val x) w) := run_gStore_any sz151 GAuctionBid.val GAuctionBid.val_eq w a x
@[go_sem ↓ high] theorem bx_GAuctionBid (x : GAuctionBid) : (gBox 151 (GAuctionBid.val x)).run Try.prog w = .ok (.pointer (some ⟨w.heap.size, 0, none⟩)) (w.alloc (.cells (GAuctionBid.enc x).toArray 151)) := by
  rw [GAuctionBid.val_eq]; exact run_gBox _ w
end
theorem lk151_0 (x : GAuctionBid) : x.enc[0]? = some (.int .i64 x.client) := by
  simp [GAuctionBid.enc, List.getElem?_append]
theorem pt151_0 (w : World) (x : GAuctionBid) : (part 3 x.enc.toArray 0).run Try.prog w = .ok (.int .i64 x.client) w := run_part_one na3 us3 (lk151_0 x)
@[go_sem ↓ high] theorem fd151_0 (w : World) (x : GAuctionBid) : (gField 151 (GAuctionBid.val x) 0).run Try.prog w = .ok (.int .i64 x.client) w := by
  rw [GAuctionBid.val_eq]
  exact run_gField w uu151 (by rw [fl151]; rfl) (pt151_0 w x)
theorem lk151_1 (x : GAuctionBid) : x.enc[1]? = some (.int .i64 x.amount) := by
  simp [GAuctionBid.enc, List.getElem?_append]
theorem pt151_1 (w : World) (x : GAuctionBid) : (part 3 x.enc.toArray 1).run Try.prog w = .ok (.int .i64 x.amount) w := run_part_one na3 us3 (lk151_1 x)
@[go_sem ↓ high] theorem fd151_1 (w : World) (x : GAuctionBid) : (gField 151 (GAuctionBid.val x) 1).run Try.prog w = .ok (.int .i64 x.amount) w := by
  rw [GAuctionBid.val_eq]
  exact run_gField w uu151 (by rw [fl151]; rfl) (pt151_1 w x)
@[go_sem ↓ high] theorem xf_GAuctionBid (ρ : Operand → Value) (dst : Option Tmp) (x : Operand) (i : Nat) (ty : TypeId) (pos : String) (after : Array Edge) (guard : Option (Nat × Bool)) : execOp ρ { dst, op := .field 151 x i, type := ty, pos, after, guard } = (do pure (.value (← gField 151 (ρ x) i))) := ex_field ..
theorem zr151 : zeroT Try.prog 151 = some (.agg (GAuctionBid.enc default).toArray) := by kernel_rfl
@[go_sem ↓ high] theorem al_GAuctionBid (w : World) : (gAlloc 151).run Try.prog w = .ok (.pointer (some ⟨w.heap.size, 0, none⟩)) (w.alloc (.cells (GAuctionBid.enc default).toArray 151)) := run_zero_alloc zr151 w
@[go_sem] theorem pc_GAuctionBid (w : World) (n : Nat) (x z : GAuctionBid) (hn : n = w.heap.size) : World.putCells (w.alloc (.cells (GAuctionBid.enc z).toArray 151)) ⟨n, 0, none⟩ (GAuctionBid.enc x) = w.alloc (.cells (GAuctionBid.enc x).toArray 151) := putCells_top x z hn
theorem GAuctionBid.at_client {w : World} {a : Addr} {x : GAuctionBid} (h : get? GAuctionBid w a = some x) : w.cell? (a.add 0) = some (.int .i64 x.client) := (get?_iff.1 h) _ _ (lk151_0 x)
theorem GAuctionBid.at_amount {w : World} {a : Addr} {x : GAuctionBid} (h : get? GAuctionBid w a = some x) : w.cell? (a.add 1) = some (.int .i64 x.amount) := (get?_iff.1 h) _ _ (lk151_1 x)
@[go_sem] theorem nl151_0 (x : GAuctionBid) : x.enc[0]? = some (.int .i64 x.client) := by
  have h := (GAuctionBid.at_client (get?_new (w := (default : World)) 151 x))
  simp only [Addr.add_lit, Nat.zero_add, Nat.reduceAdd, World.cell?_alloc_new, List.getElem?_toArray] at h
  exact h
@[go_sem] theorem nl151_1 (x : GAuctionBid) : x.enc[1]? = some (.int .i64 x.amount) := by
  have h := (GAuctionBid.at_amount (get?_new (w := (default : World)) 151 x))
  simp only [Addr.add_lit, Nat.zero_add, Nat.reduceAdd, World.cell?_alloc_new, List.getElem?_toArray] at h
  exact h
@[go_sem] theorem nw151 (w : World) (n : Nat) (x : GAuctionBid) (hn : n = w.heap.size) : get? GAuctionBid (w.alloc (.cells (GAuctionBid.enc x).toArray 151)) ⟨n, 0, none⟩ = some x := by
  subst hn; exact get?_new 151 x
theorem pl151 : ((Try.prog.fieldsOf 151).toList.mapM fun f => (Try.prog.info? f.type).map fun i => (f.offset, i.size)) = some [(0, 1), (1, 1)] := by kernel_rfl
theorem fs151_0 (x : GAuctionBid) (v : Int) (rest : List (Nat × Value)) : Instr.fill (fun i => ([(0, 1), (1, 1)] : List (Nat × Nat))[i]?) x.enc.toArray ((0, (.int .i64 v)) :: rest) = Instr.fill (fun i => ([(0, 1), (1, 1)] : List (Nat × Nat))[i]?) ({ x with client := v } : GAuctionBid).enc.toArray rest := by
  have h := fill_seg [(0, 1), (1, 1)] 0 0 1 rfl (([] : List Value)) ([(.int .i64 x.client)]) ([(.int .i64 x.amount)] ++ (([] : List Value))) ([(.int .i64 v)]) (.int .i64 v) rest (rfl) (by simp) (by simp) (by simp)
  have e1 : x.enc = (([] : List Value)) ++ ([(.int .i64 x.client)] ++ ([(.int .i64 x.amount)] ++ (([] : List Value)))) := by simp [GAuctionBid.enc]
  have e2 : ({ x with client := v } : GAuctionBid).enc = (([] : List Value)) ++ ([(.int .i64 v)] ++ ([(.int .i64 x.amount)] ++ (([] : List Value)))) := by simp [GAuctionBid.enc]
  rw [e1, e2]; exact h
theorem fs151_1 (x : GAuctionBid) (v : Int) (rest : List (Nat × Value)) : Instr.fill (fun i => ([(0, 1), (1, 1)] : List (Nat × Nat))[i]?) x.enc.toArray ((1, (.int .i64 v)) :: rest) = Instr.fill (fun i => ([(0, 1), (1, 1)] : List (Nat × Nat))[i]?) ({ x with amount := v } : GAuctionBid).enc.toArray rest := by
  have h := fill_seg [(0, 1), (1, 1)] 1 1 1 rfl (([] : List Value) ++ ([(.int .i64 x.client)])) ([(.int .i64 x.amount)]) (([] : List Value)) ([(.int .i64 v)]) (.int .i64 v) rest (rfl) (by simp) (by simp) (by simp)
  have e1 : x.enc = (([] : List Value) ++ ([(.int .i64 x.client)])) ++ ([(.int .i64 x.amount)] ++ (([] : List Value))) := by simp [GAuctionBid.enc]
  have e2 : ({ x with amount := v } : GAuctionBid).enc = (([] : List Value) ++ ([(.int .i64 x.client)])) ++ ([(.int .i64 v)] ++ (([] : List Value))) := by simp [GAuctionBid.enc]
  rw [e1, e2]; exact h
@[go_sem ↓ high] theorem xd_GAuctionBid (ρ : Operand → Value) (dst : Option Tmp) (ps : Array (Nat × Operand)) (ty : TypeId) (pos : String) (after : Array Edge) (guard : Option (Nat × Bool)) : execOp ρ { dst, op := .build 151 ps, type := ty, pos, after, guard } = (do pure (.value (← gBuild 151 (ps.map fun (i, x) => (i, ρ x))))) := ex_build ..
@[go_sem ↓ high] theorem bd151_0 (w : World) (v0 : Int) (v1 : Int) : (gBuild 151 #[(0, (.int .i64 v0)), (1, (.int .i64 v1))]).run Try.prog w = .ok (GAuctionBid.val ⟨v0, v1⟩) w := by
  rw [GAuctionBid.val_eq]
  refine run_gBuild_of uu151 zr151 pl151 ?_ w
  show Instr.fill _ (GAuctionBid.enc default).toArray [(0, (.int .i64 v0)), (1, (.int .i64 v1))] = _
  rw [fs151_0, fs151_1]; rfl
theorem eq_GAuctionBid (w : World) (d : Nat) (x y : GAuctionBid) : (Op.equalIn (d + 2) 151 (GAuctionBid.val x) (GAuctionBid.val y)).run Try.prog w = .ok (decide (x = y)) w := by
  have q0 : ∀ a b, (Op.equalIn (d + 1) 3 (.int .i64 a) (.int .i64 b)).run Try.prog w = .ok (decide (a = b)) w := fun a b => by rw [run_equalIn_int w (d + 0) 3 .i64 .i64 a b uk3]; congr 1
  have q1 : ∀ a b, (Op.equalIn (d + 1) 3 (.int .i64 a) (.int .i64 b)).run Try.prog w = .ok (decide (a = b)) w := fun a b => by rw [run_equalIn_int w (d + 0) 3 .i64 .i64 a b uk3]; congr 1
  have h := run_equalIn_fields (d + 1) x.enc.toArray y.enc.toArray w uu151 st151 nb151
  rw [fl151] at h
  unfold GAuctionBid.val
  refine h.trans ?_
  clear h
  simp only [eqFs, Sem.run_bind, pt151_0, pt151_1, q0, q1, Result.andThen_ok, Sem.run_ite, Sem.run_pure]
  have he : decide (x = y) = (decide (x.client = y.client) && (decide (x.amount = y.amount))) := by
    rw [Bool.eq_iff_iff]; simp only [Bool.and_eq_true, decide_eq_true_eq]; exact GAuctionBid.ext_all x y
  rw [he]
  generalize decide (x.client = y.client) = c0; generalize decide (x.amount = y.amount) = c1
  cases c0 <;> cases c1 <;> simp
@[go_sem ↓ high] theorem xq_GAuctionBid (ρ : Operand → Value) (dst : Option Tmp) (x y : Operand) (ty yt : TypeId) (pos : String) (after : Array Edge) (guard : Option (Nat × Bool)) : execOp ρ { dst, op := .binOp .eql 151 x y yt, type := ty, pos, after, guard } = (do pure (.value (← gBin .eql 151 x y (ρ x) (ρ y)))) := ex_eql ..
@[go_sem ↓ high] theorem xn_GAuctionBid (ρ : Operand → Value) (dst : Option Tmp) (x y : Operand) (ty yt : TypeId) (pos : String) (after : Array Edge) (guard : Option (Nat × Bool)) : execOp ρ { dst, op := .binOp .neq 151 x y yt, type := ty, pos, after, guard } = (do pure (.value (← gBin .neq 151 x y (ρ x) (ρ y)))) := ex_neq ..
theorem eg_GAuctionBid : Try.prog.eqGuardType Try.prog.depth 151 = false := by kernel_rfl
@[go_sem ↓ high] theorem eql_GAuctionBid (w : World) (ox oy : Operand) (x y : GAuctionBid) : (gBin .eql 151 ox oy (GAuctionBid.val x) (GAuctionBid.val y)).run Try.prog w = .ok (.bool (decide (x = y))) w := by
  have h2 := eq_GAuctionBid w 9998 x y
  rw [GAuctionBid.val_eq, GAuctionBid.val_eq] at h2 ⊢
  have h := run_eqGuard_agg (P := Try.prog) w .eql 151 ox oy (Enc.enc x).toArray (Enc.enc y).toArray eg_GAuctionBid
  unfold gBin
  simp only [Sem.run_bind, h, Result.andThen_ok, run_eql_struct, h2]
@[go_sem ↓ high] theorem neq_GAuctionBid (w : World) (ox oy : Operand) (x y : GAuctionBid) : (gBin .neq 151 ox oy (GAuctionBid.val x) (GAuctionBid.val y)).run Try.prog w = .ok (.bool (!decide (x = y))) w := by
  have h2 := eq_GAuctionBid w 9998 x y
  rw [GAuctionBid.val_eq, GAuctionBid.val_eq] at h2 ⊢
  have h := run_eqGuard_agg (P := Try.prog) w .neq 151 ox oy (Enc.enc x).toArray (Enc.enc y).toArray eg_GAuctionBid
  unfold gBin
  simp only [Sem.run_bind, h, Result.andThen_ok, run_neq_struct, h2]

/-! ### gavel/auction.House -/
structure GAuctionHouse where
  m : Option Nat
deriving DecidableEq
instance : Inhabited GAuctionHouse := ⟨⟨none⟩⟩
def GAuctionHouse.enc (x : GAuctionHouse) : List Value := [(.map x.m)]
theorem GAuctionHouse.enc_len (x : GAuctionHouse) : x.enc.length = 1 := by simp [GAuctionHouse.enc]
theorem GAuctionHouse.enc_one (x : GAuctionHouse) : ∀ u ∈ x.enc, u.oneCell' = true := by
  intro u hu
  simp only [GAuctionHouse.enc, List.mem_append, List.mem_singleton] at hu
  subst hu; rfl
theorem GAuctionHouse.enc_inj (x y : GAuctionHouse) (h : x.enc = y.enc) : x = y := by
  obtain ⟨a0⟩ := x
  obtain ⟨b0⟩ := y
  simp only [GAuctionHouse.enc] at h
  have e0 : a0 = b0 := by have := List.head_eq_of_cons_eq h; injection this
  rw [e0]
instance : Enc GAuctionHouse where
  n := 1
  enc := GAuctionHouse.enc
  pos := by omega
  len := GAuctionHouse.enc_len
  one := GAuctionHouse.enc_one
  inj := GAuctionHouse.enc_inj
@[go_sem] theorem GAuctionHouse.n_eq : Enc.n GAuctionHouse = 1 := rfl
@[irreducible] def GAuctionHouse.val (x : GAuctionHouse) : Value := .agg x.enc.toArray
theorem GAuctionHouse.val_eq (x : GAuctionHouse) : GAuctionHouse.val x = .agg (Enc.enc x).toArray := by unfold GAuctionHouse.val; rfl
theorem GAuctionHouse.ext_all (x y : GAuctionHouse) : x = y ↔ x.m = y.m := by
  constructor
  · intro h; cases h; simp
  · intro h; cases x; cases y; simp_all
theorem uu143 : Try.prog.underlying 143 = some (.struct (Try.prog.fieldsOf 143)) := by kernel_rfl
theorem st143 : Try.prog.stoodInHeld 143 = false := by kernel_rfl
theorem fl143 : fieldTO Try.prog 143 = [(141, 0)] := by kernel_rfl
theorem nb143 : noBlank Try.prog 143 = true := by kernel_rfl
@[go_sem ↓ high] theorem xl_GAuctionHouse (ρ : Operand → Value) (dst : Option Tmp) (x : Operand) (ty : TypeId) (pos : String) (after : Array Edge) (guard : Option (Nat × Bool)) : execOp ρ { dst, op := .load 143 x, type := ty, pos, after, guard } = (do pure (.value (← gLoad 143 (ρ x)))) := ex_load ..
@[go_sem ↓ high] theorem xs_GAuctionHouse (ρ : Operand → Value) (dst : Option Tmp) (x y : Operand) (ty : TypeId) (pos : String) (after : Array Edge) (guard : Option (Nat × Bool)) : execOp ρ { dst, op := .store 143 x y, type := ty, pos, after, guard } = (do gStore 143 (ρ x) (ρ y); pure .skip) := ex_store ..
@[go_sem ↓ high] theorem xb_GAuctionHouse (ρ : Operand → Value) (dst : Option Tmp) (x : Operand) (ty : TypeId) (pos : String) (after : Array Edge) (guard : Option (Nat × Bool)) : execOp ρ { dst, op := .box 143 x, type := ty, pos, after, guard } = (do pure (.value (← gBox 143 (ρ x)))) := ex_box ..
@[go_sem ↓ high] theorem xa_GAuctionHouse (ρ : Operand → Value) (dst : Option Tmp) (ty : TypeId) (pos : String) (after : Array Edge) (guard : Option (Nat × Bool)) : execOp ρ { dst, op := .alloc 143, type := ty, pos, after, guard } = (do pure (.value (← gAlloc 143))) := ex_alloc ..
theorem ag143 : aggT Try.prog 143 = true := by kernel_rfl
theorem sz143 : sizeT Try.prog 143 = 1 := by kernel_rfl
section
variable (w : World)
@[go_sem ↓ high] theorem ld_GAuctionHouse (a : Addr) : (gLoad 143 (.pointer (some a))).run Try.prog w = ofOpt ((get? GAuctionHouse w a).map GAuctionHouse.val) w (noLoad Try.prog 143 a w) := by
  unfold gLoad; exact run_loadAt_opt ag143 sz143 GAuctionHouse.val GAuctionHouse.val_eq
@[go_sem ↓ high] theorem st_GAuctionHouse (a : Addr) (x : GAuctionHouse) : (gStore 143 (.pointer (some a)) (GAuctionHouse.val x)).run Try.prog w = okU' ((get? GAuctionHouse w a).isSome && blkFree w a.block) (World.putCells w a (GAuctionHouse.enc x)) (noStore Try.prog 143 (.pointer (some a)) (GAuctionHouse.val x) w) := run_gStore_any sz143 GAuctionHouse.val GAuctionHouse.val_eq w a x
@[go_sem ↓ high] theorem bx_GAuctionHouse (x : GAuctionHouse) : (gBox 143 (GAuctionHouse.val x)).run Try.prog w = .ok (.pointer (some ⟨w.heap.size, 0, none⟩)) (w.alloc (.cells (GAuctionHouse.enc x).toArray 143)) := by
  rw [GAuctionHouse.val_eq]; exact run_gBox _ w
end
theorem lk143_0 (x : GAuctionHouse) : x.enc[0]? = some (.map x.m) := by
  simp [GAuctionHouse.enc, List.getElem?_append]
theorem pt143_0 (w : World) (x : GAuctionHouse) : (part 141 x.enc.toArray 0).run Try.prog w = .ok (.map x.m) w := run_part_one na141 us141 (lk143_0 x)
@[go_sem ↓ high] theorem fd143_0 (w : World) (x : GAuctionHouse) : (gField 143 (GAuctionHouse.val x) 0).run Try.prog w = .ok (.map x.m) w := by
  rw [GAuctionHouse.val_eq]
  exact run_gField w uu143 (by rw [fl143]; rfl) (pt143_0 w x)
@[go_sem ↓ high] theorem xf_GAuctionHouse (ρ : Operand → Value) (dst : Option Tmp) (x : Operand) (i : Nat) (ty : TypeId) (pos : String) (after : Array Edge) (guard : Option (Nat × Bool)) : execOp ρ { dst, op := .field 143 x i, type := ty, pos, after, guard } = (do pure (.value (← gField 143 (ρ x) i))) := ex_field ..
theorem zr143 : zeroT Try.prog 143 = some (.agg (GAuctionHouse.enc default).toArray) := by kernel_rfl
@[go_sem ↓ high] theorem al_GAuctionHouse (w : World) : (gAlloc 143).run Try.prog w = .ok (.pointer (some ⟨w.heap.size, 0, none⟩)) (w.alloc (.cells (GAuctionHouse.enc default).toArray 143)) := run_zero_alloc zr143 w
@[go_sem] theorem pc_GAuctionHouse (w : World) (n : Nat) (x z : GAuctionHouse) (hn : n = w.heap.size) : World.putCells (w.alloc (.cells (GAuctionHouse.enc z).toArray 143)) ⟨n, 0, none⟩ (GAuctionHouse.enc x) = w.alloc (.cells (GAuctionHouse.enc x).toArray 143) := putCells_top x z hn
theorem GAuctionHouse.at_m {w : World} {a : Addr} {x : GAuctionHouse} (h : get? GAuctionHouse w a = some x) : w.cell? (a.add 0) = some (.map x.m) := (get?_iff.1 h) _ _ (lk143_0 x)
@[go_sem] theorem nl143_0 (x : GAuctionHouse) : x.enc[0]? = some (.map x.m) := by
  have h := (GAuctionHouse.at_m (get?_new (w := (default : World)) 143 x))
  simp only [Addr.add_lit, Nat.zero_add, Nat.reduceAdd, World.cell?_alloc_new, List.getElem?_toArray] at h
  exact h
@[go_sem] theorem nw143 (w : World) (n : Nat) (x : GAuctionHouse) (hn : n = w.heap.size) : get? GAuctionHouse (w.alloc (.cells (GAuctionHouse.enc x).toArray 143)) ⟨n, 0, none⟩ = some x := by
  subst hn; exact get?_new 143 x
theorem pl143 : ((Try.prog.fieldsOf 143).toList.mapM fun f => (Try.prog.info? f.type).map fun i => (f.offset, i.size)) = some [(0, 1)] := by kernel_rfl
theorem fs143_0 (x : GAuctionHouse) (v : Option Nat) (rest : List (Nat × Value)) : Instr.fill (fun i => ([(0, 1)] : List (Nat × Nat))[i]?) x.enc.toArray ((0, (.map v)) :: rest) = Instr.fill (fun i => ([(0, 1)] : List (Nat × Nat))[i]?) ({ x with m := v } : GAuctionHouse).enc.toArray rest := by
  have h := fill_seg [(0, 1)] 0 0 1 rfl (([] : List Value)) ([(.map x.m)]) (([] : List Value)) ([(.map v)]) (.map v) rest (rfl) (by simp) (by simp) (by simp)
  have e1 : x.enc = (([] : List Value)) ++ ([(.map x.m)] ++ (([] : List Value))) := by simp [GAuctionHouse.enc]
  have e2 : ({ x with m := v } : GAuctionHouse).enc = (([] : List Value)) ++ ([(.map v)] ++ (([] : List Value))) := by simp [GAuctionHouse.enc]
  rw [e1, e2]; exact h
@[go_sem ↓ high] theorem xd_GAuctionHouse (ρ : Operand → Value) (dst : Option Tmp) (ps : Array (Nat × Operand)) (ty : TypeId) (pos : String) (after : Array Edge) (guard : Option (Nat × Bool)) : execOp ρ { dst, op := .build 143 ps, type := ty, pos, after, guard } = (do pure (.value (← gBuild 143 (ps.map fun (i, x) => (i, ρ x))))) := ex_build ..
@[go_sem ↓ high] theorem bd143_0 (w : World) (v0 : Option Nat) : (gBuild 143 #[(0, (.map v0))]).run Try.prog w = .ok (GAuctionHouse.val ⟨v0⟩) w := by
  rw [GAuctionHouse.val_eq]
  refine run_gBuild_of uu143 zr143 pl143 ?_ w
  show Instr.fill _ (GAuctionHouse.enc default).toArray [(0, (.map v0))] = _
  rw [fs143_0]; rfl
/-! ### []auction.bid -/
theorem ei144 : ElemI Try.prog 144 151 GAuctionBid 16 := ⟨by kernel_rfl, by kernel_rfl⟩
@[go_sem ↓ high] theorem xg_144 (ρ : Operand → Value) (dst : Option Tmp) (ps : Array (Nat × Operand)) (ty : TypeId) (pos : String) (after : Array Edge) (guard : Option (Nat × Bool)) : execOp ρ { dst, op := .buildSlice 144 1 ps, type := ty, pos, after, guard } = (do pure (.value (← gBuildSlice 144 1 (ps.map fun (i, x) => (i, ρ x))))) := ex_buildSlice ..
@[go_sem ↓ high] theorem bs_144 (w : World) (x : GAuctionBid) : (gBuildSlice 144 1 #[(0, GAuctionBid.val x)]).run Try.prog w = .ok (.slice (some ⟨w.heap.size, 0, none⟩) 1 1) (w.alloc (.cells (GAuctionBid.enc x).toArray 151)) := by
  rw [GAuctionBid.val_eq]; exact run_buildSlice_one ei144 (by decide) x w
/-! ### []auction.sale -/
theorem ei154 : ElemI Try.prog 154 146 GAuctionSale 104 := ⟨by kernel_rfl, by kernel_rfl⟩
@[go_sem ↓ high] theorem xg_154 (ρ : Operand → Value) (dst : Option Tmp) (ps : Array (Nat × Operand)) (ty : TypeId) (pos : String) (after : Array Edge) (guard : Option (Nat × Bool)) : execOp ρ { dst, op := .buildSlice 154 1 ps, type := ty, pos, after, guard } = (do pure (.value (← gBuildSlice 154 1 (ps.map fun (i, x) => (i, ρ x))))) := ex_buildSlice ..
@[go_sem ↓ high] theorem bs_154 (w : World) (x : GAuctionSale) : (gBuildSlice 154 1 #[(0, GAuctionSale.val x)]).run Try.prog w = .ok (.slice (some ⟨w.heap.size, 0, none⟩) 1 1) (w.alloc (.cells (GAuctionSale.enc x).toArray 146)) := by
  rw [GAuctionSale.val_eq]; exact run_buildSlice_one ei154 (by decide) x w
/-! ### []auction.Result -/
theorem ei56 : ElemI Try.prog 56 59 GAuctionResult 32 := ⟨by kernel_rfl, by kernel_rfl⟩
@[go_sem ↓ high] theorem xg_56 (ρ : Operand → Value) (dst : Option Tmp) (ps : Array (Nat × Operand)) (ty : TypeId) (pos : String) (after : Array Edge) (guard : Option (Nat × Bool)) : execOp ρ { dst, op := .buildSlice 56 1 ps, type := ty, pos, after, guard } = (do pure (.value (← gBuildSlice 56 1 (ps.map fun (i, x) => (i, ρ x))))) := ex_buildSlice ..
@[go_sem ↓ high] theorem bs_56 (w : World) (x : GAuctionResult) : (gBuildSlice 56 1 #[(0, GAuctionResult.val x)]).run Try.prog w = .ok (.slice (some ⟨w.heap.size, 0, none⟩) 1 1) (w.alloc (.cells (GAuctionResult.enc x).toArray 59)) := by
  rw [GAuctionResult.val_eq]; exact run_buildSlice_one ei56 (by decide) x w
theorem kl9 : KeyLaws Try.prog 9 ByteArray := keyLaws_string uk9
instance : VEnc GAuctionSale := ⟨GAuctionSale.val, fun a b h => by rw [GAuctionSale.val_eq, GAuctionSale.val_eq] at h; injection h with h; exact Enc.inj _ _ (by simpa using congrArg Array.toList h)⟩

/-! ### map[string]auction.sale -/
theorem um141 : Try.prog.underlying 141 = some (.map 9 146) := by kernel_rfl
theorem zv141_146 : zeroT Try.prog 146 = some (VEnc.vv (default : GAuctionSale)) := by kernel_rfl
@[go_sem ↓ high] theorem xk_141 (ρ : Operand → Value) (dst : Option Tmp) (x y : Operand) (ok : Bool) (ty : TypeId) (pos : String) (after : Array Edge) (guard : Option (Nat × Bool)) : execOp ρ { dst, op := .lookup 141 x y ok, type := ty, pos, after, guard } = (do pure (.value (← gLookup 141 (ρ x) (ρ y) ok))) := ex_lookup ..
@[go_sem ↓ high] theorem xu_141 (ρ : Operand → Value) (dst : Option Tmp) (x y z : Operand) (ty : TypeId) (pos : String) (after : Array Edge) (guard : Option (Nat × Bool)) : execOp ρ { dst, op := .mapUpdate 141 x y z, type := ty, pos, after, guard } = (do gMapUpdate 141 (ρ x) (ρ y) (ρ z); pure .skip) := ex_mapUpdate ..
@[go_sem ↓ high] theorem lk_141 (w : World) (r : Nat) (k : ByteArray) : (gLookup 141 (.map (some r)) (.string k) false).run Try.prog w = ofOpt ((mapAt ByteArray GAuctionSale w r).map fun m => (GAuctionSale.val ((mget m k).getD default))) w (noLookup Try.prog 141 (.map (some r)) (.string k) false w) :=
  run_gLookup kl9 um141 zv141_146 w r k
@[go_sem ↓ high] theorem lo_141 (w : World) (r : Nat) (k : ByteArray) : (gLookup 141 (.map (some r)) (.string k) true).run Try.prog w = ofOpt ((mapAt ByteArray GAuctionSale w r).map fun m => .tuple #[(GAuctionSale.val ((mget m k).getD default)), .bool (mget m k).isSome]) w (noLookup Try.prog 141 (.map (some r)) (.string k) true w) :=
  run_gLookup_ok kl9 um141 zv141_146 w r k
@[go_sem ↓ high] theorem ln_141 (w : World) (k : ByteArray) : (gLookup 141 (.map none) (.string k) false).run Try.prog w = .ok (GAuctionSale.val (default : GAuctionSale)) w :=
  run_gLookup_nil kl9 um141 zv141_146 w k
@[go_sem ↓ high] theorem mu_141 (w : World) (r : Nat) (k : ByteArray) (v : GAuctionSale) : (gMapUpdate 141 (.map (some r)) (.string k) (GAuctionSale.val v)).run Try.prog w = okU ((mapAt ByteArray GAuctionSale w r).isSome) (mput Try.prog 141 w r k v) (noUpdate Try.prog 141 (.map (some r)) (.string k) (GAuctionSale.val v) w) :=
  run_gMapUpdate kl9 um141 w r k v
@[go_sem] theorem sz_mput_141 (w : World) (r : Nat) (k : ByteArray) (v : GAuctionSale) (h : (mapAt ByteArray GAuctionSale w r).isSome = true) : (mput Try.prog 141 w r k v).heap.size = w.heap.size := by
  obtain ⟨m, hm⟩ := Option.isSome_iff_exists.1 h; exact mput_size kl9 um141 hm k v

end Go.Proofs.Yteockodnfempfaa
/- Auctions: what a house reads as; names. Conditions: those named in each theorem. -/
namespace Go.Proofs.Yteockodnfempfaa
open Go Go.RowKit Go.Gv

/-! ### The model -/
structure MSale where
  name : ByteArray
  vickrey : Bool
  reserve : Int
  close : Int
  bids : List GAuctionBid
  settled : Bool
  result : GAuctionResult
abbrev MHouse := List (ByteArray × MSale)
def MSale.at (x : MSale) (h : Hdr) : GAuctionSale := ⟨x.name, x.vickrey, x.reserve, x.close, h, x.settled, x.result⟩
def SaleIs (w : World) (s : GAuctionSale) (x : MSale) : Prop := ∃ h : Hdr, s = x.at h ∧ Sl GAuctionBid w w.heap.size h.a h.len x.bids ∧ h.len ≤ h.cap ∧ h.cap ≤ maxLen
def HRel (w : World) : List (ByteArray × GAuctionSale) → MHouse → Prop
  | [], [] => True
  | p :: m, q :: H => (p.1 = q.1 ∧ SaleIs w p.2 q.2) ∧ HRel w m H
  | _, _ => False
theorem SaleIs.step {w w' : World} {s : GAuctionSale} {x : MSale} (h : SaleIs w s x) (hb : Bel w w') : SaleIs w' s x := by
  obtain ⟨hd, h1, h2, h3⟩ := h
  exact ⟨hd, h1, h2.stepB hb, h3⟩
section
variable {w w' : World}
theorem HRel.step (hb : Bel w w') : ∀ {m : List (ByteArray × GAuctionSale)} {H : MHouse}, HRel w m H → HRel w' m H
  | [], [], h => h
  | _ :: _, _ :: _, h => ⟨⟨h.1.1, h.1.2.step hb⟩, HRel.step hb h.2⟩
  | [], _ :: _, h => h.elim
  | _ :: _, [], h => h.elim
theorem HRel.keys : ∀ {m : List (ByteArray × GAuctionSale)} {H : MHouse}, HRel w m H → m.map (·.1) = H.map (·.1)
  | [], [], _ => rfl
  | _ :: _, _ :: _, h => by simp only [List.map_cons]; rw [h.1.1, HRel.keys h.2]
  | [], _ :: _, h => h.elim
  | _ :: _, [], h => h.elim
theorem HRel.len {m : List (ByteArray × GAuctionSale)} {H : MHouse} (h : HRel w m H) : m.length = H.length := by
  have := congrArg List.length h.keys; simpa using this
theorem HRel.get (k : ByteArray) : ∀ {m : List (ByteArray × GAuctionSale)} {H : MHouse}, HRel w m H → (mget m k = none ∧ mget H k = none) ∨ ∃ s x, mget m k = some s ∧ mget H k = some x ∧ SaleIs w s x
  | [], [], _ => .inl ⟨rfl, rfl⟩
  | p :: m, q :: H, h => by
    simp only [mget_cons, h.1.1]
    by_cases e : q.1 = k
    · simp only [e, if_true]
      exact .inr ⟨p.2, q.2, rfl, rfl, h.1.2⟩
    · simp only [e, if_false]
      exact HRel.get k h.2
  | [], _ :: _, h => h.elim
  | _ :: _, [], h => h.elim
theorem HRel.app {m2 : List (ByteArray × GAuctionSale)} {H2 : MHouse} (h2 : HRel w m2 H2) : ∀ {m : List (ByteArray × GAuctionSale)} {H : MHouse}, HRel w m H → HRel w (m ++ m2) (H ++ H2)
  | [], [], _ => h2
  | _ :: _, _ :: _, h => ⟨h.1, HRel.app h2 h.2⟩
  | [], _ :: _, h => h.elim
  | _ :: _, [], h => h.elim
theorem HRel.upd {k : ByteArray} {s : GAuctionSale} {x : MSale} (hs : SaleIs w s x) : ∀ {m : List (ByteArray × GAuctionSale)} {H : MHouse}, HRel w m H → HRel w (m.map fun p => if p.1 = k then (k, s) else p) (H.map fun p => if p.1 = k then (k, x) else p)
  | [], [], _ => trivial
  | p :: m, q :: H, h => by
    simp only [List.map_cons]
    refine ⟨?_, HRel.upd hs h.2⟩
    by_cases e : q.1 = k
    · rw [if_pos (h.1.1.trans e), if_pos e]; exact ⟨rfl, hs⟩
    · rw [if_neg (fun e' => e (h.1.1.symm.trans e')), if_neg e]; exact h.1
  | [], _ :: _, h => h.elim
  | _ :: _, [], h => h.elim
theorem HRel.set {k : ByteArray} {s : GAuctionSale} {x : MSale} (hs : SaleIs w s x) {m : List (ByteArray × GAuctionSale)} {H : MHouse} (h : HRel w m H) : HRel w (mset m k s) (mset H k x) := by
  unfold mset
  rw [h.keys]
  split
  · exact h.upd hs
  · exact HRel.app (m2 := [(k, s)]) (H2 := [(k, x)]) ⟨⟨rfl, hs⟩, trivial⟩ h
end
/-- Block r is a map of auctions. -/
def HouseAt (w : World) (r : Nat) (H : MHouse) : Prop := ∃ m, mapAt ByteArray GAuctionSale w r = some m ∧ HRel w m H
/-- At p lies a house over the map in block r. -/
def HouseIs (w : World) (p : Addr) (r : Nat) (H : MHouse) : Prop := w.cell? p = some (.map (some r)) ∧ HouseAt w r H
section
variable {w w' : World} {p : Addr} {r : Nat} {H : MHouse}
theorem HouseAt.lt (h : HouseAt w r H) : r < w.heap.size := by obtain ⟨m, hm, _⟩ := h; exact mapAt_lt hm
theorem HouseAt.step (h : HouseAt w r H) (hb : Bel w w') : HouseAt w' r H := by
  obtain ⟨m, hm, hr⟩ := h
  exact ⟨m, (mapAt_below hb (mapAt_lt hm)).trans hm, hr.step hb⟩
theorem HouseIs.step (h : HouseIs w p r H) (hb : Bel w w') : HouseIs w' p r H := ⟨GB.cell hb h.1, h.2.step hb⟩
theorem _root_.Go.Gv.Sl.mput_ {α : Type} [Enc α] {K V : Type} [DecidableEq K] [KEnc K] [VEnc V] {P : Program} {tK tM tV : TypeId} (L : KeyLaws P tK K) (hM : P.underlying tM = some (.map tK tV)) {m : List (K × V)} (h : mapAt K V w r = some m) (k : K) (v : V) {A : Option Addr} {n : Nat} {xs : List α} (hs : Sl α w w.heap.size A n xs) :
    Sl α (mput P tM w r k v) (mput P tM w r k v).heap.size A n xs := by
  refine ⟨hs.1, fun hn => ?_⟩
  obtain ⟨ad, e, hb, hc⟩ := hs.2 hn
  exact ⟨ad, e, by rw [mput_size L hM h]; exact hb, fun j x hj => by rw [mput_get L hM h]; exact hc j x hj⟩
theorem SaleIs.put {m : List (ByteArray × GAuctionSale)} (hm : mapAt ByteArray GAuctionSale w r = some m) (k : ByteArray) (v : GAuctionSale) {s : GAuctionSale} {x : MSale} (h : SaleIs w s x) : SaleIs (mput Try.prog 141 w r k v) s x := by
  obtain ⟨hd, h1, h2, h3⟩ := h
  exact ⟨hd, h1, h2.mput_ kl9 um141 hm k v, h3⟩
theorem HRel.mono (hw : ∀ s x, SaleIs w s x → SaleIs w' s x) : ∀ {m : List (ByteArray × GAuctionSale)} {H : MHouse}, HRel w m H → HRel w' m H
  | [], [], h => h
  | _ :: _, _ :: _, h => ⟨⟨h.1.1, hw _ _ h.1.2⟩, HRel.mono hw h.2⟩
  | [], _ :: _, h => h.elim
  | _ :: _, [], h => h.elim
theorem HRel.put {m0 : List (ByteArray × GAuctionSale)} (hm : mapAt ByteArray GAuctionSale w r = some m0) (k : ByteArray) (v : GAuctionSale) {m : List (ByteArray × GAuctionSale)} {H : MHouse} (h : HRel w m H) : HRel (mput Try.prog 141 w r k v) m H :=
  HRel.mono (fun _ _ hs => SaleIs.put hm k v hs) h
theorem HouseAt.put {m : List (ByteArray × GAuctionSale)} (hm : mapAt ByteArray GAuctionSale w r = some m) (hr : HRel w m H) {k : ByteArray} {v : GAuctionSale} {x : MSale} (hs : SaleIs w v x) : HouseAt (mput Try.prog 141 w r k v) r (mset H k x) :=
  ⟨mset m k v, mapAt_mput kl9 um141 hm k v, (hr.put hm k v).set (hs.put hm k v)⟩
theorem GX.of_bel (h : Bel w w') (r : Nat) : GX r w w' := ⟨Below.os h, Below.tape h, Below.output h, Below.size h, fun k hk _ => Below.block h k hk⟩
theorem GX.cell {v : Value} (h : GX r w w') (hc : w.cell? p = some v) (hp : p.block ≠ r) : w'.cell? p = some v :=
  (World.cell?_of_block (w := w) (h.block _ (World.block_lt_of_cell? w _ hc) (fun e => hp (by injection e)))).trans hc
end
/-! ### Names -/
def nameB (s : ByteArray) : Bool := (s.data.toList.all fun c => decide (97 ≤ c.toNat) && decide (c.toNat ≤ 122)) && (decide (1 ≤ s.size) && decide (s.size ≤ 16))
end Go.Proofs.Yteockodnfempfaa
/- What word.Name, auction.New and Open compute. Conditions: those named in each theorem. -/
namespace Go.Proofs.Yteockodnfempfaa
open Go Go.RowKit Go.Gv

def letB (c : UInt8) : Bool := decide (97 ≤ c.toNat) && decide (c.toNat ≤ 122)
theorem take_snocB (s : ByteArray) (k : Nat) (h : k < s.size) : s.data.toList.take (k + 1) = s.data.toList.take k ++ [s[k]] := by
  rw [List.take_succ_eq_append_getElem (by simpa using h)]; rfl
theorem nameB_eq (s : ByteArray) : nameB s = (s.data.toList.all letB && (decide (1 ≤ s.size) && decide (s.size ≤ 16))) := rfl
theorem all_no {s : ByteArray} {k : Nat} (h : k < s.size) (hc : letB s[k] = false) : s.data.toList.all letB = false := by
  rw [List.all_eq_false]
  exact ⟨s[k], by
    have : s[k] = s.data.toList[k]'(by simpa using h) := rfl
    rw [this]; exact List.getElem_mem _, by rw [hc]; simp⟩
set_option maxHeartbeats 400000 in
theorem name_any (s : ByteArray) (w : World) (hs : s.size ≤ maxLen) :
    Calls Try.prog 71 #[.string s] w fun e w' => e = .returned (.bool (nameB s)) ∧ w = w' := by
  unfold maxLen at hs
  go_enter Try.func71, Try.ntmps71
  go_wp2
  go_loop [3] (fun i => ∃ k : Nat, k ≤ s.size ∧ i = .int .i64 k ∧ (s.data.toList.take k).all letB = true) (fun i => s.size - (intOf i).toNat)
  case atStart => exact ⟨0, Nat.zero_le _, rfl, rfl⟩
  case round =>
    obtain ⟨k, hk, rfl, hall⟩ := hrel
    have HA := Lib.hid hall; clear hall
    by_cases hlt : k < s.size
    · have hts := Lib.hid (take_snocB s k hlt)
      have hno := Lib.hid (fun hc => all_no hlt hc)
      obtain ⟨c, hc⟩ : ∃ c, s[k] = c := ⟨_, rfl⟩
      have HC := Lib.hid hc
      by_cases h1 : (c.toNat : Int) < 97
      · have hb : letB s[k] = false := by rw [hc]; unfold letB; simp; omega
        have HB := Lib.hid hb; clear hb
        go_wp2
        go_ret
        refine ⟨ret_bool ?_, rfl⟩
        rw [nameB_eq, hno.out HB.out]; rfl
      · by_cases h2 : 122 < (c.toNat : Int)
        · have hb : letB s[k] = false := by rw [hc]; unfold letB; simp; omega
          have HB := Lib.hid hb; clear hb
          go_wp2
          go_ret
          refine ⟨ret_bool ?_, rfl⟩
          rw [nameB_eq, hno.out HB.out]; rfl
        · have hb : letB s[k] = true := by rw [hc]; unfold letB; simp; omega
          have HB := Lib.hid hb; clear hb
          go_wp2
          go_round
          case rel => exact ⟨k + 1, by omega, by go_num, by rw [hts.out, List.all_append, HA.out]; simp [HB.out]⟩
          case measure => simp [intOf]; omega
    · have hall : s.data.toList.all letB = true := by
        have := HA.out
        rwa [List.take_of_length_le (by simp; omega)] at this
      have HA2 := Lib.hid hall; clear hall
      by_cases h1 : 1 ≤ s.size
      · by_cases h2 : s.size ≤ 16
        · go_wp2
          go_ret
          exact ⟨ret_bool (by rw [nameB_eq, HA2.out]; simp [h1]; omega), rfl⟩
        · go_wp2
          go_ret
          exact ⟨ret_bool (by rw [nameB_eq, HA2.out]; simp [h2]; omega), rfl⟩
      · go_wp2
        go_ret
        exact ⟨ret_bool (by rw [nameB_eq, HA2.out]; simp [h1]), rfl⟩
theorem name_is (r : Bool) (s : ByteArray) (w : World) (hr : nameB s = r) (hs : s.size ≤ maxLen) :
    Calls Try.prog 71 #[.string s] w fun e w' => e = .returned (.bool r) ∧ w' = w := by subst hr; exact flipC (name_any s w hs)

theorem new_any (w : World) : Calls Try.prog 34 #[] w fun e w' => ∃ g r : Nat, e = .returned (.pointer (some ⟨g, 0, none⟩)) ∧ HouseIs w' ⟨g, 0, none⟩ r [] ∧ w.heap.size ≤ g ∧ w.heap.size ≤ r ∧ g ≠ r ∧ g < w'.heap.size ∧ Bel w w' := by
  have hmm := @run_makeMap Try.prog
  go_enter Try.func34, Try.ntmps34
  go_wp2
  go_ret
  refine ⟨w.heap.size + 1, w.heap.size, rfl, ⟨?_, ?_⟩, by omega, by omega, by omega, by simp, ((Bel.refl w).alloc _).alloc _⟩
  · exact cell_zero (GAuctionHouse.at_m (nw143 (w.alloc (.map #[] 0)) (w.heap.size + 1) ⟨some w.heap.size⟩ (by simp)))
  · exact ⟨[], (mapAt_alloc _ (mapAt_new _ _ w)), trivial⟩
end Go.Proofs.Yteockodnfempfaa
/- What Open computes. Conditions: those named in each theorem. -/
namespace Go.Proofs.Yteockodnfempfaa
open Go Go.RowKit Go.Gv

def badOpen (name : ByteArray) (reserve : Int) : Bool := !nameB name || (decide (reserve < 0) || decide (1099511627776 < reserve))
def openR (H : MHouse) (name : ByteArray) (reserve close now : Int) : Int :=
  if badOpen name reserve = true then 1 else if (mget H name).isSome = true then 5 else if close ≤ now then 4 else if 64 ≤ H.length then 7 else 0
def newSale (name : ByteArray) (v : Bool) (reserve close : Int) : MSale := ⟨name, v, reserve, close, [], false, default⟩
def openH (H : MHouse) (name : ByteArray) (v : Bool) (reserve close now : Int) : MHouse := if openR H name reserve close now = 0 then mset H name (newSale name v reserve close) else H

def Opened (w : World) (p : Addr) (r : Nat) (H : MHouse) (name : ByteArray) (v : Bool) (reserve close now : Int) (e : Ending) (w' : World) : Prop :=
  e = .returned (.int .i64 (openR H name reserve close now)) ∧ HouseIs w' p r (openH H name v reserve close now) ∧ GX r w w'
theorem opened_no {w w' : World} {p : Addr} {r : Nat} {H : MHouse} {name : ByteArray} {v : Bool} {reserve close now c : Int} (hH : HouseIs w p r H) (hb : Bel w w') (hc : openR H name reserve close now = c) (h0 : c ≠ 0) :
    Opened w p r H name v reserve close now (.returned (.int .i64 c)) w' := by
  subst hc
  refine ⟨rfl, ?_, GX.of_bel hb r⟩
  unfold openH
  rw [if_neg h0]
  exact hH.step hb
theorem houseIs_put {w : World} {p : Addr} {r : Nat} {H : MHouse} {m : List (ByteArray × GAuctionSale)} (hc : w.cell? p = some (.map (some r))) (hp : p.block ≠ r) (hm : mapAt ByteArray GAuctionSale w r = some m) (hr : HRel w m H) {k : ByteArray} {v : GAuctionSale} {x : MSale} (hs : SaleIs w v x) :
    HouseIs (mput Try.prog 141 w r k v) p r (mset H k x) ∧ GX r w (mput Try.prog 141 w r k v) := by
  have hg : GX r w (mput Try.prog 141 w r k v) := mput_grown kl9 um141 hm k v
  exact ⟨⟨GX.cell hg hc hp, HouseAt.put hm hr hs⟩, hg⟩
set_option maxRecDepth 100000 in
set_option maxHeartbeats 1000000 in
theorem open_any (p : Addr) (r : Nat) (H : MHouse) (name : ByteArray) (v : Bool) (reserve close now : Int) (w : World) (hH : HouseIs w p r H) (hp : p.block ≠ r) (hn : name.size ≤ maxLen) (hlen : H.length ≤ maxLen) :
    Calls Try.prog 35 #[.pointer (some p), .string name, .bool v, .int .i64 reserve, .int .u64 close, .int .u64 now] w (Opened w p r H name v reserve close now) := by
  obtain ⟨hc, m, hm, hr⟩ := hH
  have HH := Lib.hid (show HouseIs w p r H from ⟨hc, m, hm, hr⟩)
  have hrl := mapAt_lt hm
  have hml := hr.len
  have HR := Lib.hid hr; clear hr
  unfold maxLen at hlen
  obtain ⟨s0, hs0, hsH⟩ : ∃ s0 : GAuctionSale, (mget m name).getD default = s0 ∧ (mget m name).isSome = (mget H name).isSome := by
    refine ⟨_, rfl, ?_⟩
    rcases HR.out.get name with ⟨h1, h2⟩ | ⟨s, x, h1, h2, _⟩
    · rw [h1, h2]; rfl
    · rw [h1, h2]; rfl
  obtain ⟨is, his⟩ : ∃ is, (mget H name).isSome = is := ⟨_, rfl⟩
  rw [his] at hsH
  obtain ⟨n, hnl⟩ : ∃ n, H.length = n := ⟨_, rfl⟩
  rw [hnl] at hml hlen
  have HIS := Lib.hid his; have HNL := Lib.hid hnl; have HML := Lib.hid hml
  have HBA := Lib.hid ((Bel.refl w).alloc (.cells (GAuctionSale.enc s0).toArray 146))
  clear his hnl hml
  have hcA : ∀ o, (w.alloc o).cell? p = some (.map (some r)) := fun o => GB.cell (GB.al w o) hc
  have hmA : ∀ o, mapAt ByteArray GAuctionSale (w.alloc o) r = some m := fun o => mapAt_alloc o hm
  have hlenrun : ∀ o, (Builtin.len_ #[141] 3 #[.map (some r)]).run Try.prog (w.alloc o) = .ok (.int .i64 (n : Int)) (w.alloc o) := fun o => by
    rw [Gv.run_len_map kl9 um141 (hmA o) 3, HML.out]
  obtain ⟨nb, hnb⟩ : ∃ nb, nameB name = nb := ⟨_, rfl⟩
  have HNB := Lib.hid hnb; clear hnb
  by_cases hbad : badOpen name reserve = true
  · have HO := Lib.hid (show openR H name reserve close now = 1 by unfold openR; rw [if_pos hbad])
    have hb2 : (!nb || (decide (reserve < 0) || decide (1099511627776 < reserve))) = true := by rw [← HNB.out]; exact hbad
    clear hbad
    cases nb
    · clear hb2
      go_enter Try.func35, Try.ntmps35
      go_wp2_with fail
      refine (name_is false name _ HNB.out hn).mono ?_
      rintro _ w1 ⟨rfl, rfl⟩
      go_wp2_with fail
      go_ret
      exact opened_no HH.out HBA.out HO.out (by decide)
    · by_cases h1 : reserve < 0
      · clear hb2
        go_enter Try.func35, Try.ntmps35
        go_wp2_with fail
        refine (name_is true name _ HNB.out hn).mono ?_
        rintro _ w1 ⟨rfl, rfl⟩
        go_wp2_with fail
        go_ret
        exact opened_no HH.out HBA.out HO.out (by decide)
      · have h2 : 1099511627776 < reserve := by simpa [h1] using hb2
        clear hb2
        go_enter Try.func35, Try.ntmps35
        go_wp2_with fail
        refine (name_is true name _ HNB.out hn).mono ?_
        rintro _ w1 ⟨rfl, rfl⟩
        go_wp2_with fail
        go_ret
        exact opened_no HH.out HBA.out HO.out (by decide)
  · have hb2 : nb = true ∧ ¬ reserve < 0 ∧ ¬ 1099511627776 < reserve := by
      have : badOpen name reserve = false := by simpa using hbad
      unfold badOpen at this
      rw [HNB.out] at this
      simpa [and_assoc] using this
    obtain ⟨rfl, h1, h2⟩ := hb2
    have HBD := Lib.hid hbad; clear hbad
    cases is
    · by_cases h4 : close ≤ now
      · have HO := Lib.hid (show openR H name reserve close now = 4 by unfold openR; rw [if_neg HBD.out, if_neg (by rw [HIS.out]; decide), if_pos h4])
        go_enter Try.func35, Try.ntmps35
        go_wp2_with fail
        refine (name_is true name _ HNB.out hn).mono ?_
        rintro _ w1 ⟨rfl, rfl⟩
        go_wp2_with fail
        go_ret
        exact opened_no HH.out HBA.out HO.out (by decide)
      · by_cases h64 : 64 ≤ n
        · have HO := Lib.hid (show openR H name reserve close now = 7 by unfold openR; rw [if_neg HBD.out, if_neg (by rw [HIS.out]; decide), if_neg h4, if_pos (by rw [HNL.out]; exact h64)])
          go_enter Try.func35, Try.ntmps35
          go_wp2_with fail
          refine (name_is true name _ HNB.out hn).mono ?_
          rintro _ w1 ⟨rfl, rfl⟩
          go_wp2_with fail
          go_ret
          exact opened_no HH.out HBA.out HO.out (by decide)
        · have HO := Lib.hid (show openR H name reserve close now = 0 by unfold openR; rw [if_neg HBD.out, if_neg (by rw [HIS.out]; decide), if_neg h4, if_neg (by rw [HNL.out]; exact h64)])
          have hput := houseIs_put (p := p) (k := name) (v := (newSale name v reserve close).at default) (x := newSale name v reserve close) (hcA (.cells (GAuctionSale.enc s0).toArray 146)) hp (hmA _) (HR.out.step HBA.out) ⟨default, rfl, Sl.nil, Nat.le_refl _, Nat.zero_le _⟩
          have HP := Lib.hid hput; clear hput
          go_enter Try.func35, Try.ntmps35
          go_wp2_with fail
          refine (name_is true name _ HNB.out hn).mono ?_
          rintro _ w1 ⟨rfl, rfl⟩
          go_wp2_with fail
          go_ret
          refine ⟨by rw [HO.out]; rfl, ?_, GX.tr _ _ _ (GX.of_bel HBA.out r) HP.out.2⟩
          have := HP.out.1
          unfold openH
          rw [if_pos HO.out]
          exact this
    · have HO := Lib.hid (show openR H name reserve close now = 5 by unfold openR; rw [if_neg HBD.out, if_pos HIS.out])
      go_enter Try.func35, Try.ntmps35
      go_wp2_with fail
      refine (name_is true name _ HNB.out hn).mono ?_
      rintro _ w1 ⟨rfl, rfl⟩
      go_wp2_with fail
      go_ret
      exact opened_no HH.out HBA.out HO.out (by decide)
end Go.Proofs.Yteockodnfempfaa
/- What the helps of Bid compute. Conditions: those named in each theorem. -/
namespace Go.Proofs.Yteockodnfempfaa
open Go Go.RowKit Go.Gv

def hasBid (bs : List GAuctionBid) (c : Int) : Bool := bs.any fun b => b.client == c
theorem bidFn_any (b : GAuctionBid) (g : Nat) (c : Int) (w : World) (hc : w.cell? ⟨g, 0, none⟩ = some (.int .i64 c)) :
    Calls Try.prog 73 #[b.val, .pointer (some ⟨g, 0, none⟩)] w fun e w' => e = .returned (.bool (b.client == c)) ∧ Bel w w' := by
  have hcA : ∀ o, (w.alloc o).cell? ⟨g, 0, none⟩ = some (.int .i64 c) := fun o => GB.cell (GB.al w o) hc
  go_enter Try.func73, Try.ntmps73
  go_wp2
  go_ret
  exact ⟨rfl, (Bel.refl w).alloc _⟩
theorem bidFn_is (r : Bool) (b : GAuctionBid) (g : Nat) (c : Int) (w : World) (hr : (b.client == c) = r) (hc : w.cell? ⟨g, 0, none⟩ = some (.int .i64 c)) :
    Calls Try.prog 73 #[b.val, .pointer (some ⟨g, 0, none⟩)] w fun e w' => e = .returned (.bool r) ∧ Bel w w' := by subst hr; exact bidFn_any b g c w hc
def IndexIs (bs : List GAuctionBid) (c : Int) (w : World) (e : Ending) (w' : World) : Prop := ∃ i : Int, e = .returned (.int .i64 i) ∧ decide (0 ≤ i) = hasBid bs c ∧ Bel w w'
set_option maxHeartbeats 1000000 in
theorem indexBid_any (A : Option Addr) (n k g : Nat) (bs : List GAuctionBid) (c : Int) (w : World) (hx : Sl GAuctionBid w w.heap.size A n bs) (hn : n ≤ maxLen) (hc : w.cell? ⟨g, 0, none⟩ = some (.int .i64 c)) :
    Calls Try.prog 109 #[.slice A n k, .func (.func 73) #[] #[.pointer (some ⟨g, 0, none⟩)]] w (IndexIs bs c w) := by
  unfold maxLen at hn
  have H := Lib.hid hx; have HC := Lib.hid hc; clear hx hc
  go_enter Try.func109, Try.ntmps109
  go_wp2
  go_loopw [8] (fun i wr => ∃ j : Nat, j ≤ n ∧ i = .int .i64 j ∧ hasBid (bs.take j) c = false ∧ Bel w wr) (fun i _ => n - (intOf i).toNat)
  case atStart => exact ⟨0, by omega, rfl, rfl, Bel.refl _⟩
  case round =>
    obtain ⟨j, hj, rfl, hno, hb⟩ := hrel
    have HNO := Lib.hid hno; have HB := Lib.hid hb; clear hno hb
    by_cases hlt : j < n
    · obtain ⟨ad, b, rfl, _, hbk, hgb⟩ := (H.out.stepB HB.out).at_ (k := j) hlt
      have HBK := Lib.hid hbk; clear hbk
      change get? GAuctionBid wr (ad.add (j * 2)) = some b at hgb
      obtain ⟨r, hr⟩ : ∃ r, (b.client == c) = r := ⟨_, rfl⟩
      have HR := Lib.hid hr; clear hr
      have hstep : hasBid (bs.take (j + 1)) c = r := by
        have hno := HNO.out
        unfold hasBid at hno ⊢
        rw [nodup_step HBK.out, List.any_append, hno]; simpa using HR.out
      have HS := Lib.hid hstep; clear hstep
      go_wp2_with fail
      refine (bidFn_is r b g c _ HR.out (GB.cell HB.out HC.out)).mono ?_
      rintro _ w1 ⟨rfl, hb1⟩
      have HB1 := Lib.hid (HB.out.trans hb1); clear hb1
      cases r
      · go_wp2
        go_roundw
        case rel => exact ⟨j + 1, by omega, by go_num, HS.out, HB1.out⟩
        case measure => simp [intOf] <;> omega
      · have hany : hasBid bs c = true := by
          have := HS.out
          unfold hasBid at this ⊢
          rw [List.any_eq_true] at this ⊢
          obtain ⟨y, hy, hyc⟩ := this
          exact ⟨y, List.mem_of_mem_take hy, hyc⟩
        have HA := Lib.hid hany; clear hany
        go_wp2
        go_ret
        exact ⟨j, rfl, by rw [HA.out]; simp, HB1.out⟩
    · have hall : hasBid bs c = false := by
        have := HNO.out
        rwa [List.take_of_length_le (by rw [H.out.1]; omega)] at this
      have HA := Lib.hid hall; clear hall
      go_wp2
      go_ret
      exact ⟨-1, rfl, by rw [HA.out]; rfl, HB.out⟩
theorem hasBid_any (r : Bool) (A : Option Addr) (n k g : Nat) (bs : List GAuctionBid) (c : Int) (w : World) (hr : hasBid bs c = r) (hx : Sl GAuctionBid w w.heap.size A n bs) (hn : n ≤ maxLen) (hc : w.cell? ⟨g, 0, none⟩ = some (.int .i64 c)) :
    Calls Try.prog 72 #[.slice A n k, .func (.func 73) #[] #[.pointer (some ⟨g, 0, none⟩)]] w fun e w' => e = .returned (.bool r) ∧ Bel w w' := by
  have H := Lib.hid hx; have HC := Lib.hid hc; have HR := Lib.hid hr; clear hx hc hr
  go_enter Try.func72, Try.ntmps72
  go_wp2_with fail
  refine (indexBid_any A n k g bs c w H.out hn HC.out).mono ?_
  rintro _ w1 ⟨i, rfl, hi, hb⟩
  have HB := Lib.hid hb; have HI := Lib.hid hi; clear hb hi
  go_wp2
  go_ret
  exact ⟨ret_bool (by rw [HI.out, HR.out]), HB.out⟩
set_option maxRecDepth 100000 in
theorem cloneBid_any (A : Option Addr) (n k : Nat) (bs : List GAuctionBid) (w : World) (hx : Sl GAuctionBid w w.heap.size A n bs) (hn : n * 16 ≤ 140737488355328) :
    Calls Try.prog 74 #[.slice A n k] w fun e w' => ∃ v, e = .returned v ∧ OwnS w' w.heap.size 151 v bs ∧ Bel w w' := by
  have H := Lib.hid hx; have HN := Lib.hid hn; clear hx hn
  have hq : ∀ (w : World) (a : Option Addr) (n c : Nat), (binOp .eql 144 (.slice a n c) (.slice none 0 0)).run Try.prog w = .ok (.bool a.isNone) w := fun w a n c => Lib.run_eql_slice_nil w _ _ a n c 0 0 (Try.underlying144)
  cases A with
  | none =>
    have h0 : n = 0 := by
      rcases Nat.eq_zero_or_pos n with h | h
      · exact h
      · obtain ⟨ad, e, _⟩ := H.out.2 h; cases e
    subst h0
    have hbs : bs = [] := List.eq_nil_of_length_eq_zero H.out.1
    subst hbs
    go_enter Try.func74, Try.ntmps74
    go_wp2
    go_ret
    exact ⟨_, rfl, OwnS.nil _ _ _, Bel.refl _⟩
  | some ad =>
    go_enter Try.func74, Try.ntmps74
    go_wp2
    generalize hrun : Sem.run _ (gAppend _ _ _) _ = rr
    have ho0 : OwnS (w.alloc (.cells #[] 151)) w.heap.size 151 (.slice (some ⟨w.heap.size, 0, none⟩) 0 0) ([] : List GAuctionBid) :=
      ⟨rfl, .inr ⟨w.heap.size, 0, #[], rfl, Nat.le_refl _, heap_alloc_new w _, Nat.le_refl _, Nat.zero_le _, rfl, rfl⟩⟩
    have hn := HN.out
    obtain ⟨v', w', rfl, ho, hg, hob⟩ := append_spec hrun ei144 ho0 (H.out.stepB ((Bel.refl w).alloc _)) (by simp only [List.length_nil]; unfold maxLen; omega) (by simp only [List.length_nil]; omega) (by simp)
    clear hrun hn
    have hbel : Bel w w' := ((Bel.refl w).alloc _).appS hg ho0 (Nat.le_refl _)
    clear ho0 hg hob
    have HO := Lib.hid ho; have HB := Lib.hid hbel
    clear ho hbel
    go_wp2
    go_ret
    exact ⟨_, rfl, HO.out, HB.out⟩
end Go.Proofs.Yteockodnfempfaa
/- What Bid computes. Conditions: those named in each theorem. -/
namespace Go.Proofs.Yteockodnfempfaa
open Go Go.RowKit Go.Gv

def badBid (client amount : Int) : Bool := (decide (amount < 1) || decide (1099511627776 < amount)) || (decide (client < 0) || decide (100 ≤ client))
def bidR (H : MHouse) (name : ByteArray) (client amount now : Int) : Int :=
  match mget H name with
  | none => 6
  | some x => if x.settled = true ∨ x.close < now then 11 else if badBid client amount = true then 1 else if hasBid x.bids client = true then 5 else 0
def MSale.bid (x : MSale) (client amount : Int) : MSale := { x with bids := x.bids ++ [⟨client, amount⟩] }
def bidH (H : MHouse) (name : ByteArray) (client amount now : Int) : MHouse :=
  match mget H name with
  | none => H
  | some x => if bidR H name client amount now = 0 then mset H name (x.bid client amount) else H
def Bidden (w : World) (p : Addr) (r : Nat) (H : MHouse) (name : ByteArray) (client amount now : Int) (e : Ending) (w' : World) : Prop :=
  e = .returned (.int .i64 (bidR H name client amount now)) ∧ HouseIs w' p r (bidH H name client amount now) ∧ GX r w w'
theorem bidden_no {w w' : World} {p : Addr} {r : Nat} {H : MHouse} {name : ByteArray} {client amount now c : Int} (hH : HouseIs w p r H) (hb : Bel w w') (hc : bidR H name client amount now = c) (h0 : c ≠ 0) :
    Bidden w p r H name client amount now (.returned (.int .i64 c)) w' := by
  subst hc
  refine ⟨rfl, ?_, GX.of_bel hb r⟩
  unfold bidH
  split
  · exact hH.step hb
  · rw [if_neg h0]; exact hH.step hb
theorem _root_.Go.Gv.Sl.setCell_ {α : Type} [Enc α] {w : World} {B : Nat} {A : Option Addr} {n : Nat} {xs : List α} (h : Sl α w B A n xs) (p : Addr) (u : Value) (hne : 0 < n → ∀ ad, A = some ad → ad.block ≠ p.block) : Sl α (w.setCell p u) B A n xs := by
  refine ⟨h.1, fun hn => ?_⟩
  obtain ⟨ad, e, hb, hc⟩ := h.2 hn
  exact ⟨ad, e, hb, fun k x hx => (get?_setCell p u (by rw [add_block]; exact hne hn ad e)).trans (hc k x hx)⟩
theorem sale_bids (x : MSale) (h h' : Hdr) : Enc.enc (x.at h') = (Enc.enc (x.at h)).set 4 (.slice h'.a h'.len h'.cap) := rfl

set_option maxRecDepth 100000 in
set_option maxHeartbeats 2000000 in
theorem bid_any (p : Addr) (r : Nat) (H : MHouse) (name : ByteArray) (client amount now : Int) (w : World) (hH : HouseIs w p r H) (hp : p.block ≠ r) (hbig : ∀ x, mget H name = some x → x.bids.length ≤ 1000000) :
    Calls Try.prog 36 #[.pointer (some p), .string name, .int .i64 client, .int .i64 amount, .int .u64 now] w (Bidden w p r H name client amount now) := by
  obtain ⟨hc, m, hm, hr⟩ := hH
  have HH := Lib.hid (show HouseIs w p r H from ⟨hc, m, hm, hr⟩)
  have hrl := mapAt_lt hm
  have hrl2 : r < w.heap.size + 1 := by omega
  have HR := Lib.hid hr; clear hr
  have hcA : ∀ o, (w.alloc o).cell? p = some (.map (some r)) := fun o => GB.cell (GB.al w o) hc
  have hcB : ∀ o o', ((w.alloc o).alloc o').cell? p = some (.map (some r)) := fun o o' => GB.cell (GB.al _ o') (hcA o)
  have HBA := Lib.hid fun (o : Obj) => ((Bel.refl w).alloc (.cells #[.int .i64 client] 3)).alloc o
  rcases HR.out.get name with ⟨hm0, hH0⟩ | ⟨s, x, hms, hHx, hsx⟩
  · have HO := Lib.hid (show bidR H name client amount now = 6 by unfold bidR; rw [hH0])
    clear hH0
    go_enter Try.func36, Try.ntmps36
    go_wp2_with fail
    go_ret
    exact bidden_no HH.out (HBA.out _) HO.out (by decide)
  · obtain ⟨hd, rfl, hsl, hdc, hdm⟩ := hsx
    have hb2 := hbig x hHx
    rw [hsl.1] at hb2
    have HSL := Lib.hid hsl; have HHX := Lib.hid hHx; clear hsl hHx hbig
    unfold maxLen at hdm
    by_cases h11 : x.settled = true ∨ x.close < now
    · have HO := Lib.hid (show bidR H name client amount now = 11 by unfold bidR; rw [HHX.out]; simp only; rw [if_pos h11])
      by_cases hst : x.settled = true
      · have hst2 : (x.at hd).settled = true := hst
        clear h11 hst
        go_enter Try.func36, Try.ntmps36
        go_wp2_with fail
        go_ret
        exact bidden_no HH.out (HBA.out _) HO.out (by decide)
      · have hcl : (x.at hd).close < now := by rcases h11 with h | h; exact absurd h hst; exact h
        have hst2 : (x.at hd).settled = false := Bool.eq_false_iff.2 hst
        clear h11 hst
        go_enter Try.func36, Try.ntmps36
        go_wp2_with fail
        go_ret
        exact bidden_no HH.out (HBA.out _) HO.out (by decide)
    · have hst2 : (x.at hd).settled = false := Bool.eq_false_iff.2 fun h => h11 (.inl h)
      have hcl : ¬ (x.at hd).close < now := fun h => h11 (.inr h)
      have H11 := Lib.hid h11; clear h11
      by_cases hbad : badBid client amount = true
      · have HO := Lib.hid (show bidR H name client amount now = 1 by unfold bidR; rw [HHX.out]; simp only; rw [if_neg H11.out, if_pos hbad])
        unfold badBid at hbad
        simp only [Bool.or_eq_true, decide_eq_true_eq] at hbad
        by_cases h1 : amount < 1
        · clear hbad
          go_enter Try.func36, Try.ntmps36
          go_wp2_with fail
          go_ret
          exact bidden_no HH.out (HBA.out _) HO.out (by decide)
        · by_cases h2 : 1099511627776 < amount
          · clear hbad
            go_enter Try.func36, Try.ntmps36
            go_wp2_with fail
            go_ret
            exact bidden_no HH.out (HBA.out _) HO.out (by decide)
          · by_cases h3 : client < 0
            · clear hbad
              go_enter Try.func36, Try.ntmps36
              go_wp2_with fail
              go_ret
              exact bidden_no HH.out (HBA.out _) HO.out (by decide)
            · have h4 : 100 ≤ client := by omega
              clear hbad
              go_enter Try.func36, Try.ntmps36
              go_wp2_with fail
              go_ret
              exact bidden_no HH.out (HBA.out _) HO.out (by decide)
      · have hnb : ¬ amount < 1 ∧ ¬ 1099511627776 < amount ∧ ¬ client < 0 ∧ ¬ 100 ≤ client := by
          have : badBid client amount = false := by simpa using hbad
          unfold badBid at this
          simp only [Bool.or_eq_false_iff, decide_eq_false_iff_not] at this
          exact ⟨this.1.1, this.1.2, this.2.1, this.2.2⟩
        obtain ⟨h1, h2, h3, h4⟩ := hnb
        have HBD := Lib.hid hbad; clear hbad
        have hcl1 : ∀ o, ((w.alloc (.cells #[.int .i64 client] 3)).alloc o).cell? ⟨w.heap.size, 0, none⟩ = some (.int .i64 client) := fun o => GB.cell (GB.al _ o) (by simp)
        obtain ⟨hb, hhb⟩ : ∃ hb, hasBid x.bids client = hb := ⟨_, rfl⟩
        have HHB := Lib.hid hhb; clear hhb
        cases hb
        · have HO := Lib.hid (show bidR H name client amount now = 0 by unfold bidR; rw [HHX.out]; simp only; rw [if_neg H11.out, if_neg HBD.out, if_neg (by rw [HHB.out]; decide)])
          go_enter Try.func36, Try.ntmps36
          go_wp2_with fail
          refine (hasBid_any false hd.a hd.len hd.cap w.heap.size x.bids client _ HHB.out (HSL.out.stepB (HBA.out _)) (by unfold maxLen; omega) (hcl1 _)).mono ?_
          rintro _ w1 ⟨rfl, hb1⟩
          have hB1 := (HBA.out (.cells (GAuctionSale.enc (x.at hd)).toArray 146)).trans hb1
          have hbox0 := nw146 (w.alloc (.cells #[.int .i64 client] 3)) (w.heap.size + 1) (x.at hd) (by simp)
          have hbox := GB.get hb1 hbox0
          have hfree : blkFree w1 (w.heap.size + 1) = true := (blkFree_keep (hb1.block _ (by simp))).trans (blkFree_new _ _ (by simp))
          have hcl2 := GB.cell hb1 (hcl1 _)
          have hsz1 : w.heap.size + 1 < w1.heap.size := by have := hb1.size; simp at this; omega
          have HB1 := Lib.hid hB1
          have HSL1 := Lib.hid (HSL.out.stepB hB1)
          have hfc : w1.cell? ⟨w.heap.size + 1, 4, none⟩ = some (.slice hd.a hd.len hd.cap) := by
            have h := GAuctionSale.at_bids hbox
            exact cell_off (a := ⟨w.heap.size + 1, 0, none⟩) (by omega) h
          clear hb1 hB1 hbox0 hcl1
          go_upto_region 10 with fail
          go_cut [60] (fun _ wx => ∃ hd' : Hdr, get? GAuctionSale wx ⟨w.heap.size + 1, 0, none⟩ = some (x.at hd') ∧ Sl GAuctionBid wx wx.heap.size hd'.a hd'.len (x.bids ++ [⟨client, amount⟩]) ∧ hd'.len ≤ hd'.cap ∧ hd'.cap ≤ maxLen ∧ Bel w wx)
          case first =>
            go_wp2
            refine wp_region_G GB [7, 9] GB.rf (by kernel_rfl) ?_
            refine wpG_looks 5 10 [0,1,3,4,5] rfl GB.rf GB.tr (by kernel_rfl) (fun _ _ _ _ hd h => And.intro (hd ▸ And.left h) (And.right h)) rfl (by kernel_rfl) ?_
            intro ι W hne CW
            have g0 : ∀ z, (W z).cell? ⟨w.heap.size + 1, 4, none⟩ = some (.slice hd.a hd.len hd.cap) := fun z => (CW.out z).cell hfc
            have g1 : ∀ z, (W z).cell? ⟨w.heap.size, 0, none⟩ = some (.int .i64 client) := fun z => (CW.out z).cell hcl2
            repeat (refine wpLooksG_step (fun K hK => ?_); go_simp; refine hK _ ?_; clear hK K)
            refine wpLooksG_nil ?_
            clear g0 g1 CW hne W ι
            have hlenb : x.bids.length ≤ 1000000 := by rw [HSL1.out.1]; exact hb2
            refine wpG_two 2 6 _ _ rfl rfl (by kernel_rfl) rfl rfl ?_ ?_
            · intro wa hwa K hK
              go_simp
              refine (cloneBid_any hd.a hd.len hd.cap x.bids wa (HSL1.out.stepB hwa.undrew) (by omega)).mono ?_
              rintro _ wb ⟨v, rfl, ho0, hb0⟩
              refine hK _ _ (fun _ => hb0) ?_
              clear hK K
              refine wpG_force 6 _ rfl (by kernel_rfl) rfl fun wc hwc K hK => ?_
              go_simp
              refine hK _ _ (fun _ => GB.al _ _) ?_
              clear hK K
              have hBC : Bel w1 (wc.alloc (.cells (GAuctionBid.enc ⟨client, amount⟩).toArray 151)) := ((hwa.undrew.trans hb0).trans hwc).alloc _
              have ho := (ho0.step hwc).step (GB.al wc (.cells (GAuctionBid.enc ⟨client, amount⟩).toArray 151))
              have hs : Sl GAuctionBid (wc.alloc (.cells (GAuctionBid.enc ⟨client, amount⟩).toArray 151)) (wc.alloc (.cells (GAuctionBid.enc ⟨client, amount⟩).toArray 151)).heap.size (some ⟨wc.heap.size, 0, none⟩) 1 [⟨client, amount⟩] := Sl.new_ (by rw [List.flatMap_cons, List.flatMap_nil, List.append_nil]; rfl) rfl rfl (by simp)
              have hbase : w1.heap.size ≤ wa.heap.size := hwa.undrew.size
              have hbs0 : wa.heap.size ≤ (wc.alloc (.cells (GAuctionBid.enc ⟨client, amount⟩).toArray 151)).heap.size := by have := Below.size hb0; have := Below.size hwc; simp; omega
              refine wpG_force 7 _ rfl (by kernel_rfl) rfl fun wd hwd K hK => ?_
              have hBD := hBC.trans hwd
              have hod := ho.step hwd
              have hsd := hs.stepB hwd
              have hbd := GB.get hBD hbox
              have hlo : x.bids.length ≤ 1000000 := hlenb
              go_simp
              generalize hrun : Sem.run _ (gAppend _ _ _) _ = rr
              obtain ⟨v', we, rfl, ho', hg', hob'⟩ := append_spec hrun ei144 hod hsd (by unfold maxLen; omega) (by omega) (Nat.le_trans hbs0 (Below.size hwd))
              clear hrun
              go_simp
              refine hK _ _ (fun h => absurd (by simp) h) ?_
              clear hK K
              have hlow : ∀ k, v.ownBlock = some k → w1.heap.size ≤ k := fun k hk => Nat.le_trans hbase (hod.lt k hk).1
              have hBE : Bel w1 we := hBD.appS hg' hod hbase
              refine wpG_force 8 _ rfl (by kernel_rfl) rfl fun wf hwf K hK => ?_
              go_simp
              refine hK _ _ (fun _ => GB.rf _) ?_
              clear hK K
              refine wpG_force 9 _ rfl (by kernel_rfl) rfl fun wg hwg K hK => ?_
              have hBG := (hBE.trans hwf).trans hwg
              have hog := (ho'.step hwf).step hwg
              have hbg := GB.get hBG hbox
              have hfg : blkFree wg (w.heap.size + 1) = true := (blkFree_keep (Below.block hBG _ hsz1)).trans hfree
              have hcg := GB.cell hBG hfc
              have hfr := frozen_of_free (a := ⟨w.heap.size + 1, 4, none⟩) hfg
              obtain ⟨A5, c5, rfl, hoa, hc5, hm5⟩ := OwnS.ownA hog
              obtain ⟨q, hq⟩ : ∃ q, (x.bids ++ [(⟨client, amount⟩ : GAuctionBid)]).length = q := ⟨_, rfl⟩
              have hsg := hoa.sl
              have hA5 : ∀ ad, A5 = some ad → w1.heap.size ≤ ad.block := by
                obtain ⟨A', c', hv, _, _, _, hf⟩ := OwnS.shape hog
                injection hv with e1 _ _; subst e1
                exact fun ad ha => Nat.le_trans hbase (hf ad ha).1
              have hbel2 : Bel w (wg.setCell ⟨w.heap.size + 1, 4, none⟩ (.slice A5 q c5)) := (HB1.out.trans hBG).setCell (by simp) _
              rw [hq] at hsg
              simp only [hq] at hc5 ⊢
              have hbox2 : get? GAuctionSale (wg.setCell ⟨w.heap.size + 1, 4, none⟩ (.slice A5 q c5)) ⟨w.heap.size + 1, 0, none⟩ = some (x.at ⟨A5, q, c5⟩) := get?_poke hbg (sale_bids x hd ⟨A5, q, c5⟩)
              have hsl2 : Sl GAuctionBid (wg.setCell ⟨w.heap.size + 1, 4, none⟩ (.slice A5 q c5)) (wg.setCell ⟨w.heap.size + 1, 4, none⟩ (.slice A5 q c5)).heap.size A5 q (x.bids ++ [⟨client, amount⟩]) := by
                have := hsg.setCell_ ⟨w.heap.size + 1, 4, none⟩ (.slice A5 q c5) (fun _ ad ha => by have := hA5 ad ha; simp only; omega)
                simpa using this
              have HX := Lib.hid hbox2; have HY := Lib.hid hsl2; have HZ := Lib.hid hbel2
              clear hbox2 hsl2 hbel2 hsg hoa hog hA5 hbg hfg hBE hlow ho' hg' hob' hod hsd hbd hBD ho hs hBC hlo hlenb hwd hwf hwg hBG
              go_simp
              refine hK _ _ (fun h => absurd (by simp) h) ?_
              clear hK K
              refine wpG_end (by kernel_rfl) (fun wn hwn => ?_) _
              have HR9 := Lib.hid (show ∃ hd' : Hdr, get? GAuctionSale wn ⟨w.heap.size + 1, 0, none⟩ = some (x.at hd') ∧ Sl GAuctionBid wn wn.heap.size hd'.a hd'.len (x.bids ++ [⟨client, amount⟩]) ∧ hd'.len ≤ hd'.cap ∧ hd'.cap ≤ maxLen ∧ Bel w wn from ⟨⟨A5, q, c5⟩, GB.get hwn HX.out, HY.out.stepB hwn, hc5, hm5, HZ.out.trans hwn⟩)
              clear HX HY HZ hwn hcg hfr
              go_wp2
              go_meet
              exact HR9.out
            · intro wa hwa K hK
              go_simp
              refine hK _ _ (fun _ => GB.al _ _) ?_
              clear hK K
              have hs0 : Sl GAuctionBid (wa.alloc (.cells (GAuctionBid.enc ⟨client, amount⟩).toArray 151)) (wa.alloc (.cells (GAuctionBid.enc ⟨client, amount⟩).toArray 151)).heap.size (some ⟨wa.heap.size, 0, none⟩) 1 [⟨client, amount⟩] := Sl.new_ (by rw [List.flatMap_cons, List.flatMap_nil, List.append_nil]; rfl) rfl rfl (by simp)
              refine wpG_force 2 _ rfl (by kernel_rfl) rfl fun wc hwc K hK => ?_
              go_simp
              have hBA : Bel w1 wc := (hwa.undrew.alloc _).trans hwc
              refine (cloneBid_any hd.a hd.len hd.cap x.bids wc (HSL1.out.stepB hBA) (by omega)).mono ?_
              rintro _ wb ⟨v, rfl, ho, hb0⟩
              refine hK _ _ (fun _ => hb0) ?_
              clear hK K
              have hBC : Bel w1 wb := hBA.trans hb0
              have hs := (hs0.stepB hwc).stepB hb0
              have hbase : w1.heap.size ≤ wc.heap.size := hBA.size
              have hbs0 : wc.heap.size ≤ wb.heap.size := Below.size hb0
              clear hs0 hBA hb0 hwc hwa
              refine wpG_force 7 _ rfl (by kernel_rfl) rfl fun wd hwd K hK => ?_
              have hBD := hBC.trans hwd
              have hod := ho.step hwd
              have hsd := hs.stepB hwd
              have hbd := GB.get hBD hbox
              have hlo : x.bids.length ≤ 1000000 := hlenb
              go_simp
              generalize hrun : Sem.run _ (gAppend _ _ _) _ = rr
              obtain ⟨v', we, rfl, ho', hg', hob'⟩ := append_spec hrun ei144 hod hsd (by unfold maxLen; omega) (by omega) (Nat.le_trans hbs0 (Below.size hwd))
              clear hrun
              go_simp
              refine hK _ _ (fun h => absurd (by simp) h) ?_
              clear hK K
              have hlow : ∀ k, v.ownBlock = some k → w1.heap.size ≤ k := fun k hk => Nat.le_trans hbase (hod.lt k hk).1
              have hBE : Bel w1 we := hBD.appS hg' hod hbase
              refine wpG_force 8 _ rfl (by kernel_rfl) rfl fun wf hwf K hK => ?_
              go_simp
              refine hK _ _ (fun _ => GB.rf _) ?_
              clear hK K
              refine wpG_force 9 _ rfl (by kernel_rfl) rfl fun wg hwg K hK => ?_
              have hBG := (hBE.trans hwf).trans hwg
              have hog := (ho'.step hwf).step hwg
              have hbg := GB.get hBG hbox
              have hfg : blkFree wg (w.heap.size + 1) = true := (blkFree_keep (Below.block hBG _ hsz1)).trans hfree
              have hcg := GB.cell hBG hfc
              have hfr := frozen_of_free (a := ⟨w.heap.size + 1, 4, none⟩) hfg
              obtain ⟨A5, c5, rfl, hoa, hc5, hm5⟩ := OwnS.ownA hog
              obtain ⟨q, hq⟩ : ∃ q, (x.bids ++ [(⟨client, amount⟩ : GAuctionBid)]).length = q := ⟨_, rfl⟩
              have hsg := hoa.sl
              have hA5 : ∀ ad, A5 = some ad → w1.heap.size ≤ ad.block := by
                obtain ⟨A', c', hv, _, _, _, hf⟩ := OwnS.shape hog
                injection hv with e1 _ _; subst e1
                exact fun ad ha => Nat.le_trans hbase (hf ad ha).1
              have hbel2 : Bel w (wg.setCell ⟨w.heap.size + 1, 4, none⟩ (.slice A5 q c5)) := (HB1.out.trans hBG).setCell (by simp) _
              rw [hq] at hsg
              simp only [hq] at hc5 ⊢
              have hbox2 : get? GAuctionSale (wg.setCell ⟨w.heap.size + 1, 4, none⟩ (.slice A5 q c5)) ⟨w.heap.size + 1, 0, none⟩ = some (x.at ⟨A5, q, c5⟩) := get?_poke hbg (sale_bids x hd ⟨A5, q, c5⟩)
              have hsl2 : Sl GAuctionBid (wg.setCell ⟨w.heap.size + 1, 4, none⟩ (.slice A5 q c5)) (wg.setCell ⟨w.heap.size + 1, 4, none⟩ (.slice A5 q c5)).heap.size A5 q (x.bids ++ [⟨client, amount⟩]) := by
                have := hsg.setCell_ ⟨w.heap.size + 1, 4, none⟩ (.slice A5 q c5) (fun _ ad ha => by have := hA5 ad ha; simp only; omega)
                simpa using this
              have HX := Lib.hid hbox2; have HY := Lib.hid hsl2; have HZ := Lib.hid hbel2
              clear hbox2 hsl2 hbel2 hsg hoa hog hA5 hbg hfg hBE hlow ho' hg' hob' hod hsd hbd hBD ho hs hBC hlo hlenb hwd hwf hwg hBG
              go_simp
              refine hK _ _ (fun h => absurd (by simp) h) ?_
              clear hK K
              refine wpG_end (by kernel_rfl) (fun wn hwn => ?_) _
              have HR9 := Lib.hid (show ∃ hd' : Hdr, get? GAuctionSale wn ⟨w.heap.size + 1, 0, none⟩ = some (x.at hd') ∧ Sl GAuctionBid wn wn.heap.size hd'.a hd'.len (x.bids ++ [⟨client, amount⟩]) ∧ hd'.len ≤ hd'.cap ∧ hd'.cap ≤ maxLen ∧ Bel w wn from ⟨⟨A5, q, c5⟩, GB.get hwn HX.out, HY.out.stepB hwn, hc5, hm5, HZ.out.trans hwn⟩)
              clear HX HY HZ hwn hcg hfr
              go_wp2
              go_meet
              exact HR9.out
          case rest =>
            obtain ⟨hd', hbx, hsx, hdc', hdm', hbx2⟩ := hcut
            obtain ⟨w5, rfl⟩ : ∃ w5 : World, w5 = wc := ⟨_, rfl⟩
            have HB5 := Lib.hid hbx2; have HSX := Lib.hid hsx
            clear hsx hbx2
            go_wp2
            refine wp_region_G GB [6] GB.rf (by kernel_rfl) ?_
            refine wpG_looks 1 7 [0,1,2,3,4,5] rfl GB.rf GB.tr (by kernel_rfl) (fun _ _ _ _ hd h => And.intro (hd ▸ And.left h) (And.right h)) rfl (by kernel_rfl) ?_
            intro ι W hne CW
            have hc5 := GB.cell HB5.out hc
            have g0 : ∀ z, (W z).cell? p = some (.map (some r)) := fun z => (CW.out z).cell hc5
            have g1 : ∀ z, get? GAuctionSale (W z) ⟨w.heap.size + 1, 0, none⟩ = some (x.at hd') := fun z => (CW.out z).get hbx
            repeat (refine wpLooksG_step (fun K hK => ?_); go_simp; refine hK _ ?_; clear hK K)
            refine wpLooksG_nil ?_
            clear g0 g1 CW hne W ι
            refine wpG_force 6 _ rfl (by kernel_rfl) rfl fun wa hwa K hK => ?_
            have hb := HB5.out.trans hwa.undrew
            have hcp := GB.cell hb hc
            have hmp := (mapAt_below hb hrl).trans hm
            have HP := Lib.hid (houseIs_put (p := p) (k := name) (v := x.at hd') (x := x.bid client amount) hcp hp hmp (HR.out.step hb) ⟨hd', rfl, HSX.out.stepB hwa.undrew, hdc', hdm'⟩)
            have HBB := Lib.hid hb
            clear hb hwa
            go_simp
            refine hK _ _ (fun h => absurd (by simp) h) ?_
            clear hK K
            refine wpG_end (by kernel_rfl) (fun wn hwn => ?_) _
            have HG := Lib.hid (GX.tr _ _ _ (GX.tr _ _ _ (GX.of_bel HBB.out r) HP.out.2) (GX.of_bel hwn r))
            have HP2 := Lib.hid (HP.out.1.step hwn)
            clear HP hwn
            go_wp2
            go_ret
            refine ⟨by rw [HO.out]; rfl, ?_, HG.out⟩
            unfold bidH
            rw [HHX.out]
            simp only
            rw [if_pos HO.out]
            exact HP2.out
        · have HO := Lib.hid (show bidR H name client amount now = 5 by unfold bidR; rw [HHX.out]; simp only; rw [if_neg H11.out, if_neg HBD.out, if_pos HHB.out])
          go_enter Try.func36, Try.ntmps36
          go_wp2_with fail
          refine (hasBid_any true hd.a hd.len hd.cap w.heap.size x.bids client _ HHB.out (HSL.out.stepB (HBA.out _)) (by unfold maxLen; omega) (hcl1 _)).mono ?_
          rintro _ w1 ⟨rfl, hb1⟩
          have HB1 := Lib.hid ((HBA.out _).trans hb1)
          clear hb1
          go_wp2_with fail
          go_ret
          exact bidden_no HH.out HB1.out HO.out (by decide)
end Go.Proofs.Yteockodnfempfaa
/- What Bids and Result compute. Conditions: those named in each theorem. -/
namespace Go.Proofs.Yteockodnfempfaa
open Go Go.RowKit Go.Gv

def bidsN (H : MHouse) (name : ByteArray) : Int := match mget H name with
  | none => 0
  | some x => x.bids.length
set_option maxHeartbeats 400000 in
theorem bids_any (p : Addr) (r : Nat) (H : MHouse) (name : ByteArray) (w : World) (hH : HouseIs w p r H) :
    Calls Try.prog 39 #[.pointer (some p), .string name] w fun e w' => e = .returned (.int .i64 (bidsN H name)) ∧ w = w' := by
  obtain ⟨hc, m, hm, hr⟩ := hH
  rcases hr.get name with ⟨hm0, hH0⟩ | ⟨s, x, hms, hHx, hsx⟩
  · have HO := Lib.hid (show bidsN H name = 0 by unfold bidsN; rw [hH0])
    clear hH0 hr
    go_enter Try.func39, Try.ntmps39
    go_wp2
    go_ret
    exact ⟨ret_int (by rw [HO.out]; rfl), rfl⟩
  · obtain ⟨hd, rfl, hsl, hdc, hdm⟩ := hsx
    have HO := Lib.hid (show bidsN H name = hd.len by unfold bidsN; rw [hHx]; simp only; rw [hsl.1])
    clear hHx hsl hr
    go_enter Try.func39, Try.ntmps39
    go_wp2
    go_ret
    exact ⟨ret_int (by rw [HO.out]; rfl), rfl⟩

@[go_sem ↓ high] theorem build_result_none (w : World) : (gBuild 59 #[]).run Try.prog w = .ok (GAuctionResult.val default) w := by
  rw [GAuctionResult.val_eq]
  exact run_gBuild_of uu59 zr59 pl59 rfl w
def resultR (H : MHouse) (name : ByteArray) : GAuctionResult × Int := match mget H name with
  | none => (default, 6)
  | some x => if x.settled = true then (x.result, 0) else (default, 12)
set_option maxHeartbeats 400000 in
theorem result_any (p : Addr) (r : Nat) (H : MHouse) (name : ByteArray) (w : World) (hH : HouseIs w p r H) :
    Calls Try.prog 40 #[.pointer (some p), .string name] w fun e w' => e = .returned (.tuple #[(resultR H name).1.val, .int .i64 (resultR H name).2]) ∧ Bel w w' := by
  obtain ⟨hc, m, hm, hr⟩ := hH
  have hrl := mapAt_lt hm
  have hrl2 : r < w.heap.size + 1 := by omega
  have hcA : ∀ o, (w.alloc o).cell? p = some (.map (some r)) := fun o => GB.cell (GB.al w o) hc
  rcases hr.get name with ⟨hm0, hH0⟩ | ⟨s, x, hms, hHx, hsx⟩
  · have HO := Lib.hid (show resultR H name = (default, 6) by unfold resultR; rw [hH0])
    clear hH0 hr
    go_enter Try.func40, Try.ntmps40
    go_wp2
    refine bodyPost_ret (results_cell_tmp (x := (default : GAuctionResult)) rfl rfl ag59 sz59 (get?_alloc _ (nw59 w w.heap.size default rfl))) rfl ⟨?_, ((Bel.refl w).alloc _).alloc _⟩
    rw [HO.out]; simp only [GAuctionResult.val_eq]; rfl
  · obtain ⟨hd, rfl, hsl, hdc, hdm⟩ := hsx
    by_cases hst : x.settled = true
    · have HO := Lib.hid (show resultR H name = (x.result, 0) by unfold resultR; rw [hHx]; simp only; rw [if_pos hst])
      have hst2 : (x.at hd).settled = true := hst
      clear hHx hsl hr hst
      go_enter Try.func40, Try.ntmps40
      go_wp2
      refine bodyPost_ret (results_cell_tmp (x := x.result) rfl rfl ag59 sz59 (get?_alloc _ (nw59 w w.heap.size x.result rfl))) rfl ⟨?_, ((Bel.refl w).alloc _).alloc _⟩
      rw [HO.out]; simp only [GAuctionResult.val_eq]; rfl
    · have HO := Lib.hid (show resultR H name = (default, 12) by unfold resultR; rw [hHx]; simp only; rw [if_neg hst])
      have hst2 : (x.at hd).settled = false := Bool.eq_false_iff.2 hst
      clear hHx hsl hr hst
      go_enter Try.func40, Try.ntmps40
      go_wp2
      refine bodyPost_ret (results_cell_tmp (x := (default : GAuctionResult)) rfl rfl ag59 sz59 (get?_alloc _ (nw59 w w.heap.size default rfl))) rfl ⟨?_, ((Bel.refl w).alloc _).alloc _⟩
      rw [HO.out]; simp only [GAuctionResult.val_eq]; rfl
end Go.Proofs.Yteockodnfempfaa
/- What the comparisons compute. Conditions: those named in each theorem. -/
namespace Go.Proofs.Yteockodnfempfaa
open Go Go.RowKit Go.Gv

theorem compareU_any (a b : Int) (w : World) :
    Calls Try.prog 78 #[.int .u64 a, .int .u64 b] w fun e w' => e = .returned (.int .i64 (cmpI a b)) ∧ w = w' := by
  by_cases h1 : a < b
  · go_enter Try.func78, Try.ntmps78
    go_wp2
    go_ret
    exact ⟨ret_int (by unfold cmpI; rw [if_pos h1]), rfl⟩
  · by_cases h2 : b < a
    · go_enter Try.func78, Try.ntmps78
      go_wp2
      go_ret
      exact ⟨ret_int (by unfold cmpI; rw [if_neg (by omega), if_pos h2]), rfl⟩
    · go_enter Try.func78, Try.ntmps78
      go_wp2
      go_ret
      exact ⟨ret_int (by unfold cmpI; rw [if_neg (by omega), if_neg (by omega)]), rfl⟩
def cmpS (a b : ByteArray) : Int := if Op.bytesLess a.toList b.toList = true then -1 else if (a.toList == b.toList) = true then 0 else 1
theorem compareS_any (a b : ByteArray) (w : World) :
    Calls Try.prog 79 #[.string a, .string b] w fun e w' => e = .returned (.int .i64 (cmpS a b)) ∧ w = w' := by
  go_enter Try.func79, Try.ntmps79
  cases h1 : Op.bytesLess a.toList b.toList
  · cases h2 : (a.toList == b.toList)
    · go_wp2
      go_ret
      exact ⟨ret_int (by unfold cmpS; rw [h1, h2]; rfl), rfl⟩
    · go_wp2
      go_ret
      exact ⟨ret_int (by unfold cmpS; rw [h1, h2]; rfl), rfl⟩
  · go_wp2
    go_ret
    exact ⟨ret_int (by unfold cmpS; rw [h1]; rfl), rfl⟩
theorem endFn_any (x y : GAuctionBid) (w : World) :
    Calls Try.prog 115 #[x.val, y.val] w fun e w' => e = .returned (.int .i64 (cmpI y.amount x.amount)) ∧ w' = (w.alloc (.cells x.enc.toArray 151)).alloc (.cells y.enc.toArray 151) := by
  go_enter Try.func115, Try.ntmps115
  go_wp2_with fail
  refine (compare_any _ _ _).mono ?_
  rintro _ w1 ⟨rfl, rfl⟩
  go_wp2_with fail
  go_ret
  exact ⟨ret_int rfl, rfl⟩
end Go.Proofs.Yteockodnfempfaa
/- What Settle's comparison computes. Conditions: those named in each theorem. -/
namespace Go.Proofs.Yteockodnfempfaa
open Go Go.RowKit Go.Gv Go.Sort

def saleCmp (x y : GAuctionSale) : Int := orI [cmpI x.close y.close, cmpS x.name y.name]
/-- Nothing but draws and new blocks. -/
def GrewD (w w' : World) : Prop := ∃ q os, w' = grow (w.drewN q) os
theorem GrewD.refl (w : World) : GrewD w w := ⟨0, #[], by rw [grow_empty]; rfl⟩
theorem GrewD.alloc {w w' : World} (h : GrewD w w') (o : Obj) : GrewD w (w'.alloc o) := by
  obtain ⟨q, os, rfl⟩ := h
  exact ⟨q, os ++ #[o], by rw [alloc_eq_grow, grow_grow]⟩
theorem GrewD.drew {w w' : World} (h : GrewD w w') : GrewD w w'.drew := by
  obtain ⟨q, os, rfl⟩ := h
  exact ⟨q + 1, os, by unfold grow World.drew World.drewN; simp [Nat.add_assoc]⟩
set_option maxRecDepth 100000 in
set_option maxHeartbeats 1000000 in
theorem settleFn_any (x y : GAuctionSale) (w : World) :
    Calls Try.prog 76 #[x.val, y.val] w fun e w' => e = .returned (.int .i64 (saleCmp x y)) ∧ GrewD w w' := by
  go_enter Try.func76, Try.ntmps76
  go_wp2_with fail
  refine wp_region_tail 10 (by kernel_rfl) (by kernel_rfl) ?_
  simp only [List.take_succ_cons, List.take_zero, List.drop_succ_cons, List.drop_zero]
  repeat still_step
  still_call (flipC (compareU_any _ _ _))
  repeat still_step
  still_call (flipC (compareS_any _ _ _))
  refine wpStill_nil ?_
  go_wp2_with fail
  refine (or_any _ _ _ [⟨cmpI x.close y.close⟩, ⟨cmpS x.name y.name⟩] _ (w.heap.size + 1 + 1 + 1) ?_ (by decide)).mono ?_
  · exact Sl.drew_ (Sl.new_ rfl rfl (by simp only [World.size_alloc]) (by omega))
  · rintro e w' ⟨rfl, rfl⟩
    go_wp2
    go_ret
    exact ⟨ret_int rfl, ((((GrewD.refl _).alloc _).alloc _).alloc _).drew⟩
end Go.Proofs.Yteockodnfempfaa
/- The library's sorts at this program: which function is which; printed by the kit's lay-plain. -/
namespace Go.Proofs.Yteockodnfempfaa
open Go Go.Proofs
open Go.Shelf
def Try.sortSale_ren : Go.Shelf.Ren := ⟨fun | 6 => 75 | 15 => 111 | 14 => 110 | 28 => 140 | 29 => 141 | 20 => 132 | 21 => 133 | 22 => 134 | 23 => 135 | 24 => 136 | 25 => 137 | 26 => 138 | 27 => 139 | 46 => 149 | 47 => 150 | 48 => 151 | 49 => 152 | 50 => 153 | 57 => 176 | n => n, fun | 22 => 154 | 24 => 146 | 25 => 159 | 3 => 3 | 39 => 198 | 0 => 0 | 53 => 231 | 55 => 28 | 4 => 4 | 46 => 225 | 45 => 224 | 50 => 105 | 5 => 5 | 9 => 9 | 66 => 240 | 70 => 243 | 76 => 263 | 77 => 264 | n => n, fun | n => n⟩
theorem Try.sortSale : Go.Proofs.SlLaysF0.n6 Try.prog Try.sortSale_ren := {
  mixed := by kernel_rfl
  f6 := ⟨Try.f75.name, by decide, Try.func75.trans (congrArg some (by kernel_rfl))⟩
  f14 := ⟨Try.f110.name, by decide, Try.func110.trans (congrArg some (by kernel_rfl))⟩
  f15 := Try.func111.trans (congrArg some (by kernel_rfl))
  f20 := ⟨Try.f132.name, by decide, Try.func132.trans (congrArg some (by kernel_rfl))⟩
  f21 := ⟨Try.f133.name, by decide, Try.func133.trans (congrArg some (by kernel_rfl))⟩
  f22 := ⟨Try.f134.name, by decide, Try.func134.trans (congrArg some (by kernel_rfl))⟩
  f23 := ⟨Try.f135.name, by decide, Try.func135.trans (congrArg some (by kernel_rfl))⟩
  f24 := ⟨Try.f136.name, by decide, Try.func136.trans (congrArg some (by kernel_rfl))⟩
  f25 := ⟨Try.f137.name, by decide, Try.func137.trans (congrArg some (by kernel_rfl))⟩
  f26 := ⟨Try.f138.name, by decide, Try.func138.trans (congrArg some (by kernel_rfl))⟩
  f27 := ⟨Try.f139.name, by decide, Try.func139.trans (congrArg some (by kernel_rfl))⟩
  f28 := Try.func140.trans (congrArg some (by kernel_rfl))
  f29 := Try.func141.trans (congrArg some (by kernel_rfl))
  f46 := ⟨Try.f149.name, by decide, Try.func149.trans (congrArg some (by kernel_rfl))⟩
  f47 := Try.func150.trans (congrArg some (by kernel_rfl))
  f48 := Try.func151.trans (congrArg some (by kernel_rfl))
  f49 := ⟨Try.f152.name, by decide, Try.func152.trans (congrArg some (by kernel_rfl))⟩
  f50 := ⟨Try.f153.name, by decide, Try.func153.trans (congrArg some (by kernel_rfl))⟩
  f57 := ⟨Try.f176.name, by decide, Try.func176.trans (congrArg some (by kernel_rfl))⟩
  t0 := Try.underlying0
  a0 := Try.isAgg0
  z0 := Try.sizeOf0
  v0 := Try.zeroValue0
  t3 := Try.underlying3
  a3 := Try.isAgg3
  z3 := Try.sizeOf3
  v3 := Try.zeroValue3
  t4 := Try.underlying4
  a4 := Try.isAgg4
  z4 := Try.sizeOf4
  v4 := Try.zeroValue4
  t5 := Try.underlying5
  a5 := Try.isAgg5
  z5 := Try.sizeOf5
  v5 := Try.zeroValue5
  t9 := Try.underlying9
  a9 := Try.isAgg9
  z9 := Try.sizeOf9
  v9 := Try.zeroValue9
  t22 := Try.underlying154
  a22 := Try.isAgg154
  z22 := Try.sizeOf154
  v22 := Try.zeroValue154
  t25 := Try.underlying159
  a25 := Try.isAgg159
  z25 := Try.sizeOf159
  v25 := Try.zeroValue159
  t39 := Try.underlying198
  a39 := Try.isAgg198
  z39 := Try.sizeOf198
  v39 := Try.zeroValue198
  t45 := Try.underlying224
  a45 := Try.isAgg224
  z45 := Try.sizeOf224
  v45 := Try.zeroValue224
  t46 := Try.underlying225
  a46 := Try.isAgg225
  z46 := Try.sizeOf225
  v46 := Try.zeroValue225
  t50 := Try.underlying105
  a50 := Try.isAgg105
  z50 := Try.sizeOf105
  v50 := Try.zeroValue105
  t53 := Try.underlying231
  a53 := Try.isAgg231
  z53 := Try.sizeOf231
  v53 := Try.zeroValue231
  t55 := Try.underlying28
  a55 := Try.isAgg28
  z55 := Try.sizeOf28
  v55 := Try.zeroValue28
  t66 := Try.underlying240
  a66 := Try.isAgg240
  z66 := Try.sizeOf240
  v66 := Try.zeroValue240
  t70 := Try.underlying243
  a70 := Try.isAgg243
  z70 := Try.sizeOf243
  v70 := Try.zeroValue243
  t76 := Try.underlying263
  a76 := Try.isAgg263
  z76 := Try.sizeOf263
  v76 := Try.zeroValue263
  t77 := Try.underlying264
  a77 := Try.isAgg264
  z77 := Try.sizeOf264
  v77 := Try.zeroValue264 }
def Try.insBid_ren : Go.Shelf.Ren := ⟨fun | 20 => 154 | n => n, fun | 24 => 151 | 22 => 144 | 3 => 3 | 25 => 201 | 4 => 4 | 0 => 0 | n => n, fun | n => n⟩
theorem Try.insBid : Go.Proofs.SlLaysF0.n20 Try.prog Try.insBid_ren := {
  mixed := by kernel_rfl
  f20 := ⟨Try.f154.name, by decide, Try.func154.trans (congrArg some (by kernel_rfl))⟩
  t0 := Try.underlying0
  a0 := Try.isAgg0
  z0 := Try.sizeOf0
  v0 := Try.zeroValue0
  t3 := Try.underlying3
  a3 := Try.isAgg3
  z3 := Try.sizeOf3
  v3 := Try.zeroValue3
  t4 := Try.underlying4
  a4 := Try.isAgg4
  z4 := Try.sizeOf4
  v4 := Try.zeroValue4
  t22 := Try.underlying144
  a22 := Try.isAgg144
  z22 := Try.sizeOf144
  v22 := Try.zeroValue144
  t25 := Try.underlying201
  a25 := Try.isAgg201
  z25 := Try.sizeOf201
  v25 := Try.zeroValue201 }
end Go.Proofs.Yteockodnfempfaa
/- From our lists to the kit's rows and back. Conditions: those named in each theorem. -/
namespace Go.Gv
open Go Go.Sort Go.Proofs
section
variable {α : Type} [Enc α] [Inhabited α]
theorem Sl.holdsK {w : World} {B blk off n : Nat} {xs : List α} (h : Sl α w B (some ⟨blk, off, none⟩) n xs) (hf : blkFree w blk = true) : HoldsK (Enc.enc : α → List Value) (Enc.n α) w blk off xs.toArray := by
  intro t ht
  rw [size_flatK] at ht
  have hn : 0 < Enc.n α := Enc.pos
  have hl : t / Enc.n α < xs.length := by
    rw [Nat.div_lt_iff_lt_mul hn]; simpa using ht
  have hm : t % Enc.n α < Enc.n α := Nat.mod_lt _ hn
  obtain ⟨ad, x, he, _, hx, hg⟩ := h.at_ (k := t / Enc.n α) (by rw [← h.1]; exact hl)
  obtain rfl : ad = ⟨blk, off, none⟩ := by injection he with he; exact he.symm
  refine ⟨?_, frozen_of_free hf⟩
  have hlen : (Enc.enc x).length = Enc.n α := Enc.len x
  have hA := get?_iff.1 hg (t % Enc.n α) _ (List.getElem?_eq_getElem (by rw [hlen]; exact hm))
  have e0 : xs.toArray[t / Enc.n α]! = x := by
    rw [getElem!_pos _ _ (by simpa using hl)]
    have := (List.getElem?_eq_some_iff.1 hx).2
    simpa using this
  show w.cell? _ = some (flatK _ _ _)[t]!
  rw [get_flatK _ _ _ _ ht, e0, getElem!_pos _ _ (by rw [hlen]; exact hm), ← hA]
  congr 1
  rw [addN, addN]
  have := Nat.div_add_mod t (Enc.n α)
  rw [Nat.mul_comm] at this
  rw [Nat.add_assoc, this]
theorem HoldsK.sl {w : World} {B blk off : Nat} {d : Array α} (h : HoldsK (Enc.enc : α → List Value) (Enc.n α) w blk off d) (hb : blk < B) : Sl α w B (some ⟨blk, off, none⟩) d.size d.toList := by
  refine ⟨by simp, fun _ => ⟨_, rfl, hb, fun k x hx => get?_iff.2 fun j v hv => ?_⟩⟩
  have hk : k < d.size := by have := (List.getElem?_eq_some_iff.1 hx).1; simpa using this
  have hj : j < Enc.n α := by have := (List.getElem?_eq_some_iff.1 hv).1; rwa [Enc.len] at this
  have hc := (h.cell hk hj).1
  have e0 : d[k]! = x := by
    rw [getElem!_pos d k hk]
    have := (List.getElem?_eq_some_iff.1 hx).2
    simpa using this
  rw [e0, getElem!_pos (Enc.enc x) j (by rw [Enc.len]; exact hj), (List.getElem?_eq_some_iff.1 hv).2] at hc
  rw [← hc, addN, addN]
omit [Enc α] in
theorem sortWorldK_GX (enc : α → List Value) (k : Nat) (w : World) (blk off m : Nat) (d : Array α) (os : Array Obj) : GX blk w (sortWorldK enc k w blk off m d os) := by
  unfold sortWorldK putRowK putRow mapBlock grow
  refine ⟨rfl, rfl, rfl, ?_, ?_⟩
  · simp
  · intro i hi hr
    have hne : ¬ blk = i := fun h => hr (by rw [h])
    show (Array.modify w.heap blk _ ++ os)[i]? = w.heap[i]?
    rw [Array.getElem?_append, if_pos (by simpa using hi), Array.getElem?_modify, if_neg hne]
omit [Enc α] in
theorem sortWorldK_free (enc : α → List Value) (k : Nat) (w : World) (blk off m : Nat) (d : Array α) (os : Array Obj) : w.heap.size ≤ (sortWorldK enc k w blk off m d os).heap.size := by
  unfold sortWorldK putRowK putRow mapBlock grow
  simp
/-- What a sort leaves: the list in its new order; nothing else that was there has changed. -/
theorem sorted_is {w : World} {blk off m : Nat} {d d0 : Array α} {os : Array Obj} (h : HoldsK (Enc.enc : α → List Value) (Enc.n α) w blk off d0) (hb : blk < w.heap.size) (hs : d.size = d0.size) :
    Sl α (sortWorldK (Enc.enc : α → List Value) (Enc.n α) w blk off m d os) w.heap.size (some ⟨blk, off, none⟩) d.size d.toList ∧ GX blk w (sortWorldK (Enc.enc : α → List Value) (Enc.n α) w blk off m d os) :=
  ⟨HoldsK.sl (holdsK_sortWorldK_c _ _ _ _ _ _ _ _ _ h hb hs) hb, sortWorldK_GX _ _ _ _ _ _ _ _⟩
end
end Go.Gv
/- What SortStableFunc at bids computes. Conditions: those named in each theorem. -/
namespace Go.Proofs.Yteockodnfempfaa
open Go Go.RowKit Go.Gv Go.Sort Go.Proofs

def bidCmp (x y : GAuctionBid) : Int := cmpI y.amount x.amount
theorem ltOf_bidCmp : ltOf bidCmp = ltK GAuctionBid.amount := by
  funext x y
  unfold ltOf bidCmp cmpI ltK
  by_cases h1 : y.amount < x.amount
  · simp [h1]
  · by_cases h2 : x.amount < y.amount
    · simp [h1, h2]
    · simp [h1, h2]
set_option maxRecDepth 100000 in
theorem endFn_lays (blk off size : Nat) (w : World) : CmpLays Try.prog 115 #[] (Enc.enc : GAuctionBid → List Value) 2 bidCmp blk off size w := by
  intro m os dk _ x y
  generalize sortWorldK (Enc.enc : GAuctionBid → List Value) 2 w blk off m dk os = W
  rw [Array.append_empty]
  rw [← GAuctionBid.val_eq, ← GAuctionBid.val_eq]
  refine (endFn_any x y W).mono ?_
  rintro e w' ⟨rfl, rfl⟩
  refine ⟨rfl, 0, #[.cells x.enc.toArray 151] ++ #[.cells y.enc.toArray 151], ?_⟩
  rw [alloc_eq_grow, alloc_eq_grow, grow_grow]
  rfl
theorem insBid_any (blk off cap : Nat) (bs : List GAuctionBid) (w : World) (hx : Sl GAuctionBid w w.heap.size (some ⟨blk, off, none⟩) bs.length bs) (hb : blk < w.heap.size) (hf : blkFree w blk = true) (hn : bs.length ≤ 1000000) :
    Calls Try.prog 154 #[.slice (some ⟨blk, off, none⟩) bs.length cap, .int .i64 0, .int .i64 bs.length, .func (.func 115) #[] #[]] w fun e w' => e = .returned (.tuple #[]) ∧
      Sl GAuctionBid w' w.heap.size (some ⟨blk, off, none⟩) bs.length (sortL GAuctionBid.amount bs) ∧ GX blk w w' := by
  have hH := hx.holdsK hf
  have := AnyQ.insertionSortCmpFunc Try.insBid 2 Try.isAgg151 Try.sizeOf151 (Enc.enc : GAuctionBid → List Value) GAuctionBid.enc_len GAuctionBid.enc_one bidCmp 115 #[] blk off cap 0 bs.toArray.size bs.toArray w
    (enters_of Try.func115 (by kernel_rfl) rfl) (endFn_lays _ _ _ _) hH hb (Nat.zero_le _) (Nat.le_refl _) (by simp; omega)
  have e1 : bs.toArray.size = bs.length := by simp
  rw [e1] at this
  refine this.mono ?_
  rintro e w' ⟨rfl, n, os, rfl⟩
  have hs : (insertionSort (ltOf bidCmp) bs.toArray 0 bs.toArray.size).toList = sortL GAuctionBid.amount bs := by
    rw [ltOf_bidCmp, insertionSort_sortL]
  rw [e1] at hs
  have hz : (insertionSort (ltOf bidCmp) bs.toArray 0 bs.length).size = bs.toArray.size := by
    rw [← Array.length_toList, hs, length_sortL, e1]
  obtain ⟨h1, h2⟩ := sorted_is (m := n) (os := os) hH hb hz
  rw [hs, hz, e1] at h1
  exact ⟨rfl, h1, h2⟩
end Go.Proofs.Yteockodnfempfaa
