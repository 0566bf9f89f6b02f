/- The struct types of this seat as Lean types, with the runs of single operations over them. Conditions: those named in each theorem. -/
import Derived.Test.YteockodnfempfaaTyA
namespace Go.Proofs.Yteockodnfempfaa
open Go Go.RowKit Go.Gv
set_option linter.unusedSimpArgs false

theorem na4 : aggT Try.prog 4 = false := by kernel_rfl
theorem us4 : (Try.prog.underlying 4).isSome = true := by kernel_rfl
theorem uk4 : Try.prog.underlying 4 = some .bool := by kernel_rfl
theorem na9 : aggT Try.prog 9 = false := by kernel_rfl
theorem us9 : (Try.prog.underlying 9).isSome = true := by kernel_rfl
theorem uk9 : Try.prog.underlying 9 = some .string := by kernel_rfl
theorem na141 : aggT Try.prog 141 = false := by kernel_rfl
theorem us141 : (Try.prog.underlying 141).isSome = true := by kernel_rfl
theorem na144 : aggT Try.prog 144 = false := by kernel_rfl
theorem us144 : (Try.prog.underlying 144).isSome = true := by kernel_rfl

/-! ### gavel/auction.Result -/
structure GAuctionResult where
  name : ByteArray
  winner : Int
  price : Int
deriving DecidableEq
instance : Inhabited GAuctionResult := ⟨⟨ByteArray.empty, 0, 0⟩⟩
def GAuctionResult.enc (x : GAuctionResult) : List Value := [(.string x.name)] ++ ([(.int .i64 x.winner)] ++ ([(.int .i64 x.price)]))
theorem GAuctionResult.enc_len (x : GAuctionResult) : x.enc.length = 3 := by simp [GAuctionResult.enc]
theorem GAuctionResult.enc_one (x : GAuctionResult) : ∀ u ∈ x.enc, u.oneCell' = true := by
  intro u hu
  simp only [GAuctionResult.enc, List.mem_append, List.mem_singleton] at hu
  rcases hu with hu | hu | hu
  · subst hu; rfl
  · subst hu; rfl
  · subst hu; rfl
theorem GAuctionResult.enc_inj (x y : GAuctionResult) (h : x.enc = y.enc) : x = y := by
  obtain ⟨a0, a1, a2⟩ := x
  obtain ⟨b0, b1, b2⟩ := y
  simp only [GAuctionResult.enc] at h
  obtain ⟨p0, q0⟩ := List.append_inj h (rfl)
  have e0 : a0 = b0 := by have := List.head_eq_of_cons_eq p0; injection this
  obtain ⟨p1, q1⟩ := List.append_inj q0 (rfl)
  have e1 : a1 = b1 := by have := List.head_eq_of_cons_eq p1; injection this
  have e2 : a2 = b2 := by have := List.head_eq_of_cons_eq q1; injection this
  rw [e0, e1, e2]
instance : Enc GAuctionResult where
  n := 3
  enc := GAuctionResult.enc
  pos := by omega
  len := GAuctionResult.enc_len
  one := GAuctionResult.enc_one
  inj := GAuctionResult.enc_inj
@[go_sem] theorem GAuctionResult.n_eq : Enc.n GAuctionResult = 3 := rfl
@[irreducible] def GAuctionResult.val (x : GAuctionResult) : Value := .agg x.enc.toArray
theorem GAuctionResult.val_eq (x : GAuctionResult) : GAuctionResult.val x = .agg (Enc.enc x).toArray := by unfold GAuctionResult.val; rfl
theorem GAuctionResult.ext_all (x y : GAuctionResult) : x = y ↔ x.name = y.name ∧ x.winner = y.winner ∧ x.price = y.price := by
  constructor
  · intro h; cases h; simp
  · intro h; cases x; cases y; simp_all
theorem uu59 : Try.prog.underlying 59 = some (.struct (Try.prog.fieldsOf 59)) := by kernel_rfl
theorem st59 : Try.prog.stoodInHeld 59 = false := by kernel_rfl
theorem fl59 : fieldTO Try.prog 59 = [(9, 0), (3, 1), (3, 2)] := by kernel_rfl
theorem nb59 : noBlank Try.prog 59 = true := by kernel_rfl
@[go_sem ↓ high] theorem xl_GAuctionResult (ρ : Operand → Value) (dst : Option Tmp) (x : Operand) (ty : TypeId) (pos : String) (after : Array Edge) (guard : Option (Nat × Bool)) : execOp ρ { dst, op := .load 59 x, type := ty, pos, after, guard } = (do pure (.value (← gLoad 59 (ρ x)))) := ex_load ..
@[go_sem ↓ high] theorem xs_GAuctionResult (ρ : Operand → Value) (dst : Option Tmp) (x y : Operand) (ty : TypeId) (pos : String) (after : Array Edge) (guard : Option (Nat × Bool)) : execOp ρ { dst, op := .store 59 x y, type := ty, pos, after, guard } = (do gStore 59 (ρ x) (ρ y); pure .skip) := ex_store ..
@[go_sem ↓ high] theorem xb_GAuctionResult (ρ : Operand → Value) (dst : Option Tmp) (x : Operand) (ty : TypeId) (pos : String) (after : Array Edge) (guard : Option (Nat × Bool)) : execOp ρ { dst, op := .box 59 x, type := ty, pos, after, guard } = (do pure (.value (← gBox 59 (ρ x)))) := ex_box ..
@[go_sem ↓ high] theorem xa_GAuctionResult (ρ : Operand → Value) (dst : Option Tmp) (ty : TypeId) (pos : String) (after : Array Edge) (guard : Option (Nat × Bool)) : execOp ρ { dst, op := .alloc 59, type := ty, pos, after, guard } = (do pure (.value (← gAlloc 59))) := ex_alloc ..
theorem ag59 : aggT Try.prog 59 = true := by kernel_rfl
theorem sz59 : sizeT Try.prog 59 = 3 := by kernel_rfl
section
variable (w : World)
@[go_sem ↓ high] theorem ld_GAuctionResult (a : Addr) : (gLoad 59 (.pointer (some a))).run Try.prog w = ofOpt ((get? GAuctionResult w a).map GAuctionResult.val) w (noLoad Try.prog 59 a w) := by
  unfold gLoad; exact run_loadAt_opt ag59 sz59 GAuctionResult.val GAuctionResult.val_eq
@[go_sem ↓ high] theorem st_GAuctionResult (a : Addr) (x : GAuctionResult) : (gStore 59 (.pointer (some a)) (GAuctionResult.val x)).run Try.prog w = okU' ((get? GAuctionResult w a).isSome && blkFree w a.block) (World.putCells w a (GAuctionResult.enc x)) (noStore Try.prog 59 (.pointer (some a)) (GAuctionResult.val x) w) := run_gStore_any sz59 GAuctionResult.val GAuctionResult.val_eq w a x
@[go_sem ↓ high] theorem bx_GAuctionResult (x : GAuctionResult) : (gBox 59 (GAuctionResult.val x)).run Try.prog w = .ok (.pointer (some ⟨w.heap.size, 0, none⟩)) (w.alloc (.cells (GAuctionResult.enc x).toArray 59)) := by
  rw [GAuctionResult.val_eq]; exact run_gBox _ w
end
theorem lk59_0 (x : GAuctionResult) : x.enc[0]? = some (.string x.name) := by
  simp [GAuctionResult.enc, List.getElem?_append]
theorem pt59_0 (w : World) (x : GAuctionResult) : (part 9 x.enc.toArray 0).run Try.prog w = .ok (.string x.name) w := run_part_one na9 us9 (lk59_0 x)
@[go_sem ↓ high] theorem fd59_0 (w : World) (x : GAuctionResult) : (gField 59 (GAuctionResult.val x) 0).run Try.prog w = .ok (.string x.name) w := by
  rw [GAuctionResult.val_eq]
  exact run_gField w uu59 (by rw [fl59]; rfl) (pt59_0 w x)
theorem lk59_1 (x : GAuctionResult) : x.enc[1]? = some (.int .i64 x.winner) := by
  simp [GAuctionResult.enc, List.getElem?_append]
theorem pt59_1 (w : World) (x : GAuctionResult) : (part 3 x.enc.toArray 1).run Try.prog w = .ok (.int .i64 x.winner) w := run_part_one na3 us3 (lk59_1 x)
@[go_sem ↓ high] theorem fd59_1 (w : World) (x : GAuctionResult) : (gField 59 (GAuctionResult.val x) 1).run Try.prog w = .ok (.int .i64 x.winner) w := by
  rw [GAuctionResult.val_eq]
  exact run_gField w uu59 (by rw [fl59]; rfl) (pt59_1 w x)
theorem lk59_2 (x : GAuctionResult) : x.enc[2]? = some (.int .i64 x.price) := by
  simp [GAuctionResult.enc, List.getElem?_append]
theorem pt59_2 (w : World) (x : GAuctionResult) : (part 3 x.enc.toArray 2).run Try.prog w = .ok (.int .i64 x.price) w := run_part_one na3 us3 (lk59_2 x)
@[go_sem ↓ high] theorem fd59_2 (w : World) (x : GAuctionResult) : (gField 59 (GAuctionResult.val x) 2).run Try.prog w = .ok (.int .i64 x.price) w := by
  rw [GAuctionResult.val_eq]
  exact run_gField w uu59 (by rw [fl59]; rfl) (pt59_2 w x)
@[go_sem ↓ high] theorem xf_GAuctionResult (ρ : Operand → Value) (dst : Option Tmp) (x : Operand) (i : Nat) (ty : TypeId) (pos : String) (after : Array Edge) (guard : Option (Nat × Bool)) : execOp ρ { dst, op := .field 59 x i, type := ty, pos, after, guard } = (do pure (.value (← gField 59 (ρ x) i))) := ex_field ..
theorem zr59 : zeroT Try.prog 59 = some (.agg (GAuctionResult.enc default).toArray) := by kernel_rfl
@[go_sem ↓ high] theorem al_GAuctionResult (w : World) : (gAlloc 59).run Try.prog w = .ok (.pointer (some ⟨w.heap.size, 0, none⟩)) (w.alloc (.cells (GAuctionResult.enc default).toArray 59)) := run_zero_alloc zr59 w
@[go_sem] theorem pc_GAuctionResult (w : World) (n : Nat) (x z : GAuctionResult) (hn : n = w.heap.size) : World.putCells (w.alloc (.cells (GAuctionResult.enc z).toArray 59)) ⟨n, 0, none⟩ (GAuctionResult.enc x) = w.alloc (.cells (GAuctionResult.enc x).toArray 59) := putCells_top x z hn
theorem GAuctionResult.at_name {w : World} {a : Addr} {x : GAuctionResult} (h : get? GAuctionResult w a = some x) : w.cell? (a.add 0) = some (.string x.name) := (get?_iff.1 h) _ _ (lk59_0 x)
theorem GAuctionResult.at_winner {w : World} {a : Addr} {x : GAuctionResult} (h : get? GAuctionResult w a = some x) : w.cell? (a.add 1) = some (.int .i64 x.winner) := (get?_iff.1 h) _ _ (lk59_1 x)
theorem GAuctionResult.at_price {w : World} {a : Addr} {x : GAuctionResult} (h : get? GAuctionResult w a = some x) : w.cell? (a.add 2) = some (.int .i64 x.price) := (get?_iff.1 h) _ _ (lk59_2 x)
@[go_sem] theorem nl59_0 (x : GAuctionResult) : x.enc[0]? = some (.string x.name) := by
  have h := (GAuctionResult.at_name (get?_new (w := (default : World)) 59 x))
  simp only [Addr.add_lit, Nat.zero_add, Nat.reduceAdd, World.cell?_alloc_new, List.getElem?_toArray] at h
  exact h
@[go_sem] theorem nl59_1 (x : GAuctionResult) : x.enc[1]? = some (.int .i64 x.winner) := by
  have h := (GAuctionResult.at_winner (get?_new (w := (default : World)) 59 x))
  simp only [Addr.add_lit, Nat.zero_add, Nat.reduceAdd, World.cell?_alloc_new, List.getElem?_toArray] at h
  exact h
@[go_sem] theorem nl59_2 (x : GAuctionResult) : x.enc[2]? = some (.int .i64 x.price) := by
  have h := (GAuctionResult.at_price (get?_new (w := (default : World)) 59 x))
  simp only [Addr.add_lit, Nat.zero_add, Nat.reduceAdd, World.cell?_alloc_new, List.getElem?_toArray] at h
  exact h
@[go_sem] theorem nw59 (w : World) (n : Nat) (x : GAuctionResult) (hn : n = w.heap.size) : get? GAuctionResult (w.alloc (.cells (GAuctionResult.enc x).toArray 59)) ⟨n, 0, none⟩ = some x := by
  subst hn; exact get?_new 59 x
theorem pl59 : ((Try.prog.fieldsOf 59).toList.mapM fun f => (Try.prog.info? f.type).map fun i => (f.offset, i.size)) = some [(0, 1), (1, 1), (2, 1)] := by kernel_rfl
theorem fs59_0 (x : GAuctionResult) (v : ByteArray) (rest : List (Nat × Value)) : Instr.fill (fun i => ([(0, 1), (1, 1), (2, 1)] : List (Nat × Nat))[i]?) x.enc.toArray ((0, (.string v)) :: rest) = Instr.fill (fun i => ([(0, 1), (1, 1), (2, 1)] : List (Nat × Nat))[i]?) ({ x with name := v } : GAuctionResult).enc.toArray rest := by
  have h := fill_seg [(0, 1), (1, 1), (2, 1)] 0 0 1 rfl (([] : List Value)) ([(.string x.name)]) ([(.int .i64 x.winner)] ++ ([(.int .i64 x.price)] ++ (([] : List Value)))) ([(.string v)]) (.string v) rest (rfl) (by simp) (by simp) (by simp)
  have e1 : x.enc = (([] : List Value)) ++ ([(.string x.name)] ++ ([(.int .i64 x.winner)] ++ ([(.int .i64 x.price)] ++ (([] : List Value))))) := by simp [GAuctionResult.enc]
  have e2 : ({ x with name := v } : GAuctionResult).enc = (([] : List Value)) ++ ([(.string v)] ++ ([(.int .i64 x.winner)] ++ ([(.int .i64 x.price)] ++ (([] : List Value))))) := by simp [GAuctionResult.enc]
  rw [e1, e2]; exact h
theorem fs59_1 (x : GAuctionResult) (v : Int) (rest : List (Nat × Value)) : Instr.fill (fun i => ([(0, 1), (1, 1), (2, 1)] : List (Nat × Nat))[i]?) x.enc.toArray ((1, (.int .i64 v)) :: rest) = Instr.fill (fun i => ([(0, 1), (1, 1), (2, 1)] : List (Nat × Nat))[i]?) ({ x with winner := v } : GAuctionResult).enc.toArray rest := by
  have h := fill_seg [(0, 1), (1, 1), (2, 1)] 1 1 1 rfl (([] : List Value) ++ ([(.string x.name)])) ([(.int .i64 x.winner)]) ([(.int .i64 x.price)] ++ (([] : List Value))) ([(.int .i64 v)]) (.int .i64 v) rest (rfl) (by simp) (by simp) (by simp)
  have e1 : x.enc = (([] : List Value) ++ ([(.string x.name)])) ++ ([(.int .i64 x.winner)] ++ ([(.int .i64 x.price)] ++ (([] : List Value)))) := by simp [GAuctionResult.enc]
  have e2 : ({ x with winner := v } : GAuctionResult).enc = (([] : List Value) ++ ([(.string x.name)])) ++ ([(.int .i64 v)] ++ ([(.int .i64 x.price)] ++ (([] : List Value)))) := by simp [GAuctionResult.enc]
  rw [e1, e2]; exact h
theorem fs59_2 (x : GAuctionResult) (v : Int) (rest : List (Nat × Value)) : Instr.fill (fun i => ([(0, 1), (1, 1), (2, 1)] : List (Nat × Nat))[i]?) x.enc.toArray ((2, (.int .i64 v)) :: rest) = Instr.fill (fun i => ([(0, 1), (1, 1), (2, 1)] : List (Nat × Nat))[i]?) ({ x with price := v } : GAuctionResult).enc.toArray rest := by
  have h := fill_seg [(0, 1), (1, 1), (2, 1)] 2 2 1 rfl (([] : List Value) ++ ([(.string x.name)] ++ ([(.int .i64 x.winner)]))) ([(.int .i64 x.price)]) (([] : List Value)) ([(.int .i64 v)]) (.int .i64 v) rest (rfl) (by simp) (by simp) (by simp)
  have e1 : x.enc = (([] : List Value) ++ ([(.string x.name)] ++ ([(.int .i64 x.winner)]))) ++ ([(.int .i64 x.price)] ++ (([] : List Value))) := by simp [GAuctionResult.enc]
  have e2 : ({ x with price := v } : GAuctionResult).enc = (([] : List Value) ++ ([(.string x.name)] ++ ([(.int .i64 x.winner)]))) ++ ([(.int .i64 v)] ++ (([] : List Value))) := by simp [GAuctionResult.enc]
  rw [e1, e2]; exact h
@[go_sem ↓ high] theorem xd_GAuctionResult (ρ : Operand → Value) (dst : Option Tmp) (ps : Array (Nat × Operand)) (ty : TypeId) (pos : String) (after : Array Edge) (guard : Option (Nat × Bool)) : execOp ρ { dst, op := .build 59 ps, type := ty, pos, after, guard } = (do pure (.value (← gBuild 59 (ps.map fun (i, x) => (i, ρ x))))) := ex_build ..
@[go_sem ↓ high] theorem bd59_0 (w : World) (v0 : ByteArray) (v1 : Int) : (gBuild 59 #[(0, (.string v0)), (1, (.int .i64 v1))]).run Try.prog w = .ok (GAuctionResult.val ⟨v0, v1, 0⟩) w := by
  rw [GAuctionResult.val_eq]
  refine run_gBuild_of uu59 zr59 pl59 ?_ w
  show Instr.fill _ (GAuctionResult.enc default).toArray [(0, (.string v0)), (1, (.int .i64 v1))] = _
  rw [fs59_0, fs59_1]; rfl
@[go_sem ↓ high] theorem bd59_1 (w : World) (v0 : ByteArray) (v1 : Int) (v2 : Int) : (gBuild 59 #[(0, (.string v0)), (1, (.int .i64 v1)), (2, (.int .i64 v2))]).run Try.prog w = .ok (GAuctionResult.val ⟨v0, v1, v2⟩) w := by
  rw [GAuctionResult.val_eq]
  refine run_gBuild_of uu59 zr59 pl59 ?_ w
  show Instr.fill _ (GAuctionResult.enc default).toArray [(0, (.string v0)), (1, (.int .i64 v1)), (2, (.int .i64 v2))] = _
  rw [fs59_0, fs59_1, fs59_2]; rfl
theorem eq_GAuctionResult (w : World) (d : Nat) (x y : GAuctionResult) : (Op.equalIn (d + 2) 59 (GAuctionResult.val x) (GAuctionResult.val y)).run Try.prog w = .ok (decide (x = y)) w := by
  have q0 : ∀ a b, (Op.equalIn (d + 1) 9 (.string a) (.string b)).run Try.prog w = .ok (decide (a = b)) w := fun a b => by rw [run_equalIn_string w (d + 0) 9 a b uk9, bytes_beq]
  have q1 : ∀ a b, (Op.equalIn (d + 1) 3 (.int .i64 a) (.int .i64 b)).run Try.prog w = .ok (decide (a = b)) w := fun a b => by rw [run_equalIn_int w (d + 0) 3 .i64 .i64 a b uk3]; congr 1
  have q2 : ∀ a b, (Op.equalIn (d + 1) 3 (.int .i64 a) (.int .i64 b)).run Try.prog w = .ok (decide (a = b)) w := fun a b => by rw [run_equalIn_int w (d + 0) 3 .i64 .i64 a b uk3]; congr 1
  have h := run_equalIn_fields (d + 1) x.enc.toArray y.enc.toArray w uu59 st59 nb59
  rw [fl59] at h
  unfold GAuctionResult.val
  refine h.trans ?_
  clear h
  simp only [eqFs, Sem.run_bind, pt59_0, pt59_1, pt59_2, q0, q1, q2, Result.andThen_ok, Sem.run_ite, Sem.run_pure]
  have he : decide (x = y) = (decide (x.name = y.name) && (decide (x.winner = y.winner) && (decide (x.price = y.price)))) := by
    rw [Bool.eq_iff_iff]; simp only [Bool.and_eq_true, decide_eq_true_eq]; exact GAuctionResult.ext_all x y
  rw [he]
  generalize decide (x.name = y.name) = c0; generalize decide (x.winner = y.winner) = c1; generalize decide (x.price = y.price) = c2
  cases c0 <;> cases c1 <;> cases c2 <;> simp
@[go_sem ↓ high] theorem xq_GAuctionResult (ρ : Operand → Value) (dst : Option Tmp) (x y : Operand) (ty yt : TypeId) (pos : String) (after : Array Edge) (guard : Option (Nat × Bool)) : execOp ρ { dst, op := .binOp .eql 59 x y yt, type := ty, pos, after, guard } = (do pure (.value (← gBin .eql 59 x y (ρ x) (ρ y)))) := ex_eql ..
@[go_sem ↓ high] theorem xn_GAuctionResult (ρ : Operand → Value) (dst : Option Tmp) (x y : Operand) (ty yt : TypeId) (pos : String) (after : Array Edge) (guard : Option (Nat × Bool)) : execOp ρ { dst, op := .binOp .neq 59 x y yt, type := ty, pos, after, guard } = (do pure (.value (← gBin .neq 59 x y (ρ x) (ρ y)))) := ex_neq ..
theorem eg_GAuctionResult : Try.prog.eqGuardType Try.prog.depth 59 = false := by kernel_rfl
@[go_sem ↓ high] theorem eql_GAuctionResult (w : World) (ox oy : Operand) (x y : GAuctionResult) : (gBin .eql 59 ox oy (GAuctionResult.val x) (GAuctionResult.val y)).run Try.prog w = .ok (.bool (decide (x = y))) w := by
  have h2 := eq_GAuctionResult w 9998 x y
  rw [GAuctionResult.val_eq, GAuctionResult.val_eq] at h2 ⊢
  have h := run_eqGuard_agg (P := Try.prog) w .eql 59 ox oy (Enc.enc x).toArray (Enc.enc y).toArray eg_GAuctionResult
  unfold gBin
  simp only [Sem.run_bind, h, Result.andThen_ok, run_eql_struct, h2]
@[go_sem ↓ high] theorem neq_GAuctionResult (w : World) (ox oy : Operand) (x y : GAuctionResult) : (gBin .neq 59 ox oy (GAuctionResult.val x) (GAuctionResult.val y)).run Try.prog w = .ok (.bool (!decide (x = y))) w := by
  have h2 := eq_GAuctionResult w 9998 x y
  rw [GAuctionResult.val_eq, GAuctionResult.val_eq] at h2 ⊢
  have h := run_eqGuard_agg (P := Try.prog) w .neq 59 ox oy (Enc.enc x).toArray (Enc.enc y).toArray eg_GAuctionResult
  unfold gBin
  simp only [Sem.run_bind, h, Result.andThen_ok, run_neq_struct, h2]

/-! ### gavel/auction.sale -/
structure GAuctionSale where
  name : ByteArray
  vickrey : Bool
  reserve : Int
  close : Int
  bids : Hdr
  settled : Bool
  result : GAuctionResult
deriving DecidableEq
instance : Inhabited GAuctionSale := ⟨⟨ByteArray.empty, false, 0, 0, default, false, default⟩⟩
def GAuctionSale.enc (x : GAuctionSale) : List Value := [(.string x.name)] ++ ([(.bool x.vickrey)] ++ ([(.int .i64 x.reserve)] ++ ([(.int .u64 x.close)] ++ ([(x.bids.val)] ++ ([(.bool x.settled)] ++ (x.result.enc))))))
theorem GAuctionSale.enc_len (x : GAuctionSale) : x.enc.length = 9 := by simp [GAuctionSale.enc, GAuctionResult.enc_len]
theorem GAuctionSale.enc_one (x : GAuctionSale) : ∀ u ∈ x.enc, u.oneCell' = true := by
  intro u hu
  simp only [GAuctionSale.enc, List.mem_append, List.mem_singleton] at hu
  rcases hu with hu | hu | hu | hu | hu | hu | hu
  · subst hu; rfl
  · subst hu; rfl
  · subst hu; rfl
  · subst hu; rfl
  · subst hu; rfl
  · subst hu; rfl
  · exact Enc.one (α := GAuctionResult) _ _ hu
theorem GAuctionSale.enc_inj (x y : GAuctionSale) (h : x.enc = y.enc) : x = y := by
  obtain ⟨a0, a1, a2, a3, a4, a5, a6⟩ := x
  obtain ⟨b0, b1, b2, b3, b4, b5, b6⟩ := y
  simp only [GAuctionSale.enc] at h
  obtain ⟨p0, q0⟩ := List.append_inj h (rfl)
  have e0 : a0 = b0 := by have := List.head_eq_of_cons_eq p0; injection this
  obtain ⟨p1, q1⟩ := List.append_inj q0 (rfl)
  have e1 : a1 = b1 := by have := List.head_eq_of_cons_eq p1; injection this
  obtain ⟨p2, q2⟩ := List.append_inj q1 (rfl)
  have e2 : a2 = b2 := by have := List.head_eq_of_cons_eq p2; injection this
  obtain ⟨p3, q3⟩ := List.append_inj q2 (rfl)
  have e3 : a3 = b3 := by have := List.head_eq_of_cons_eq p3; injection this
  obtain ⟨p4, q4⟩ := List.append_inj q3 (rfl)
  have e4 : a4 = b4 := Enc.inj (α := Hdr) _ _ p4
  obtain ⟨p5, q5⟩ := List.append_inj q4 (rfl)
  have e5 : a5 = b5 := by have := List.head_eq_of_cons_eq p5; injection this
  have e6 := Enc.inj (α := GAuctionResult) _ _ q5
  rw [e0, e1, e2, e3, e4, e5, e6]
instance : Enc GAuctionSale where
  n := 9
  enc := GAuctionSale.enc
  pos := by omega
  len := GAuctionSale.enc_len
  one := GAuctionSale.enc_one
  inj := GAuctionSale.enc_inj
@[go_sem] theorem GAuctionSale.n_eq : Enc.n GAuctionSale = 9 := rfl
@[irreducible] def GAuctionSale.val (x : GAuctionSale) : Value := .agg x.enc.toArray
theorem GAuctionSale.val_eq (x : GAuctionSale) : GAuctionSale.val x = .agg (Enc.enc x).toArray := by unfold GAuctionSale.val; rfl
theorem GAuctionSale.ext_all (x y : GAuctionSale) : x = y ↔ x.name = y.name ∧ x.vickrey = y.vickrey ∧ x.reserve = y.reserve ∧ x.close = y.close ∧ x.bids = y.bids ∧ x.settled = y.settled ∧ x.result = y.result := by
  constructor
  · intro h; cases h; simp
  · intro h; cases x; cases y; simp_all
theorem uu146 : Try.prog.underlying 146 = some (.struct (Try.prog.fieldsOf 146)) := by kernel_rfl
theorem st146 : Try.prog.stoodInHeld 146 = false := by kernel_rfl
theorem fl146 : fieldTO Try.prog 146 = [(9, 0), (4, 1), (3, 2), (28, 3), (144, 4), (4, 5), (59, 6)] := by kernel_rfl
theorem nb146 : noBlank Try.prog 146 = true := by kernel_rfl
@[go_sem ↓ high] theorem xl_GAuctionSale (ρ : Operand → Value) (dst : Option Tmp) (x : Operand) (ty : TypeId) (pos : String) (after : Array Edge) (guard : Option (Nat × Bool)) : execOp ρ { dst, op := .load 146 x, type := ty, pos, after, guard } = (do pure (.value (← gLoad 146 (ρ x)))) := ex_load ..
@[go_sem ↓ high] theorem xs_GAuctionSale (ρ : Operand → Value) (dst : Option Tmp) (x y : Operand) (ty : TypeId) (pos : String) (after : Array Edge) (guard : Option (Nat × Bool)) : execOp ρ { dst, op := .store 146 x y, type := ty, pos, after, guard } = (do gStore 146 (ρ x) (ρ y); pure .skip) := ex_store ..
@[go_sem ↓ high] theorem xb_GAuctionSale (ρ : Operand → Value) (dst : Option Tmp) (x : Operand) (ty : TypeId) (pos : String) (after : Array Edge) (guard : Option (Nat × Bool)) : execOp ρ { dst, op := .box 146 x, type := ty, pos, after, guard } = (do pure (.value (← gBox 146 (ρ x)))) := ex_box ..
@[go_sem ↓ high] theorem xa_GAuctionSale (ρ : Operand → Value) (dst : Option Tmp) (ty : TypeId) (pos : String) (after : Array Edge) (guard : Option (Nat × Bool)) : execOp ρ { dst, op := .alloc 146, type := ty, pos, after, guard } = (do pure (.value (← gAlloc 146))) := ex_alloc ..
theorem ag146 : aggT Try.prog 146 = true := by kernel_rfl
theorem sz146 : sizeT Try.prog 146 = 9 := by kernel_rfl
section
variable (w : World)
@[go_sem ↓ high] theorem ld_GAuctionSale (a : Addr) : (gLoad 146 (.pointer (some a))).run Try.prog w = ofOpt ((get? GAuctionSale w a).map GAuctionSale.val) w (noLoad Try.prog 146 a w) := by
  unfold gLoad; exact run_loadAt_opt ag146 sz146 GAuctionSale.val GAuctionSale.val_eq
@[go_sem ↓ high] theorem st_GAuctionSale (a : Addr) (x : GAuctionSale) : (gStore 146 (.pointer (some a)) (GAuctionSale.val x)).run Try.prog w = okU' ((get? GAuctionSale w a).isSome && blkFree w a.block) (World.putCells w a (GAuctionSale.enc x)) (noStore Try.prog 146 (.pointer (some a)) (GAuctionSale.val x) w) := run_gStore_any sz146 GAuctionSale.val GAuctionSale.val_eq w a x
@[go_sem ↓ high] theorem bx_GAuctionSale (x : GAuctionSale) : (gBox 146 (GAuctionSale.val x)).run Try.prog w = .ok (.pointer (some ⟨w.heap.size, 0, none⟩)) (w.alloc (.cells (GAuctionSale.enc x).toArray 146)) := by
  rw [GAuctionSale.val_eq]; exact run_gBox _ w
end
theorem lk146_0 (x : GAuctionSale) : x.enc[0]? = some (.string x.name) := by
  simp [GAuctionSale.enc, List.getElem?_append]
theorem pt146_0 (w : World) (x : GAuctionSale) : (part 9 x.enc.toArray 0).run Try.prog w = .ok (.string x.name) w := run_part_one na9 us9 (lk146_0 x)
@[go_sem ↓ high] theorem fd146_0 (w : World) (x : GAuctionSale) : (gField 146 (GAuctionSale.val x) 0).run Try.prog w = .ok (.string x.name) w := by
  rw [GAuctionSale.val_eq]
  exact run_gField w uu146 (by rw [fl146]; rfl) (pt146_0 w x)
theorem lk146_1 (x : GAuctionSale) : x.enc[1]? = some (.bool x.vickrey) := by
  simp [GAuctionSale.enc, List.getElem?_append]
theorem pt146_1 (w : World) (x : GAuctionSale) : (part 4 x.enc.toArray 1).run Try.prog w = .ok (.bool x.vickrey) w := run_part_one na4 us4 (lk146_1 x)
@[go_sem ↓ high] theorem fd146_1 (w : World) (x : GAuctionSale) : (gField 146 (GAuctionSale.val x) 1).run Try.prog w = .ok (.bool x.vickrey) w := by
  rw [GAuctionSale.val_eq]
  exact run_gField w uu146 (by rw [fl146]; rfl) (pt146_1 w x)
theorem lk146_2 (x : GAuctionSale) : x.enc[2]? = some (.int .i64 x.reserve) := by
  simp [GAuctionSale.enc, List.getElem?_append]
theorem pt146_2 (w : World) (x : GAuctionSale) : (part 3 x.enc.toArray 2).run Try.prog w = .ok (.int .i64 x.reserve) w := run_part_one na3 us3 (lk146_2 x)
@[go_sem ↓ high] theorem fd146_2 (w : World) (x : GAuctionSale) : (gField 146 (GAuctionSale.val x) 2).run Try.prog w = .ok (.int .i64 x.reserve) w := by
  rw [GAuctionSale.val_eq]
  exact run_gField w uu146 (by rw [fl146]; rfl) (pt146_2 w x)
theorem lk146_3 (x : GAuctionSale) : x.enc[3]? = some (.int .u64 x.close) := by
  simp [GAuctionSale.enc, List.getElem?_append]
theorem pt146_3 (w : World) (x : GAuctionSale) : (part 28 x.enc.toArray 3).run Try.prog w = .ok (.int .u64 x.close) w := run_part_one na28 us28 (lk146_3 x)
@[go_sem ↓ high] theorem fd146_3 (w : World) (x : GAuctionSale) : (gField 146 (GAuctionSale.val x) 3).run Try.prog w = .ok (.int .u64 x.close) w := by
  rw [GAuctionSale.val_eq]
  exact run_gField w uu146 (by rw [fl146]; rfl) (pt146_3 w x)
theorem lk146_4 (x : GAuctionSale) : x.enc[4]? = some (x.bids.val) := by
  simp [GAuctionSale.enc, List.getElem?_append]
theorem pt146_4 (w : World) (x : GAuctionSale) : (part 144 x.enc.toArray 4).run Try.prog w = .ok (x.bids.val) w := run_part_one na144 us144 (lk146_4 x)
@[go_sem ↓ high] theorem fd146_4 (w : World) (x : GAuctionSale) : (gField 146 (GAuctionSale.val x) 4).run Try.prog w = .ok (x.bids.val) w := by
  rw [GAuctionSale.val_eq]
  exact run_gField w uu146 (by rw [fl146]; rfl) (pt146_4 w x)
theorem lk146_5 (x : GAuctionSale) : x.enc[5]? = some (.bool x.settled) := by
  simp [GAuctionSale.enc, List.getElem?_append]
theorem pt146_5 (w : World) (x : GAuctionSale) : (part 4 x.enc.toArray 5).run Try.prog w = .ok (.bool x.settled) w := run_part_one na4 us4 (lk146_5 x)
@[go_sem ↓ high] theorem fd146_5 (w : World) (x : GAuctionSale) : (gField 146 (GAuctionSale.val x) 5).run Try.prog w = .ok (.bool x.settled) w := by
  rw [GAuctionSale.val_eq]
  exact run_gField w uu146 (by rw [fl146]; rfl) (pt146_5 w x)
theorem ds146_6 (x : GAuctionSale) : (x.enc.drop 6).take 3 = x.result.enc := by
  unfold GAuctionSale.enc
  simp [List.drop_append, List.drop_eq_nil_of_le]
  exact List.take_of_length_le (by simp [GAuctionResult.enc_len])
theorem pt146_6 (w : World) (x : GAuctionSale) : (part 59 x.enc.toArray 6).run Try.prog w = .ok (x.result.val) w := by
  have h := run_part_agg (P := Try.prog) (w := w) (cs := x.enc) (ds := x.result.enc) (off := 6) ag59 (by rw [GAuctionResult.enc_len]; exact sz59) (by simp [GAuctionResult.enc_len]) (by rw [GAuctionResult.enc_len]; exact ds146_6 x)
  rw [h, GAuctionResult.val_eq]; rfl
@[go_sem ↓ high] theorem fd146_6 (w : World) (x : GAuctionSale) : (gField 146 (GAuctionSale.val x) 6).run Try.prog w = .ok (x.result.val) w := by
  rw [GAuctionSale.val_eq]
  exact run_gField w uu146 (by rw [fl146]; rfl) (pt146_6 w x)
@[go_sem ↓ high] theorem xf_GAuctionSale (ρ : Operand → Value) (dst : Option Tmp) (x : Operand) (i : Nat) (ty : TypeId) (pos : String) (after : Array Edge) (guard : Option (Nat × Bool)) : execOp ρ { dst, op := .field 146 x i, type := ty, pos, after, guard } = (do pure (.value (← gField 146 (ρ x) i))) := ex_field ..
theorem zr146 : zeroT Try.prog 146 = some (.agg (GAuctionSale.enc default).toArray) := by kernel_rfl
@[go_sem ↓ high] theorem al_GAuctionSale (w : World) : (gAlloc 146).run Try.prog w = .ok (.pointer (some ⟨w.heap.size, 0, none⟩)) (w.alloc (.cells (GAuctionSale.enc default).toArray 146)) := run_zero_alloc zr146 w
@[go_sem] theorem pc_GAuctionSale (w : World) (n : Nat) (x z : GAuctionSale) (hn : n = w.heap.size) : World.putCells (w.alloc (.cells (GAuctionSale.enc z).toArray 146)) ⟨n, 0, none⟩ (GAuctionSale.enc x) = w.alloc (.cells (GAuctionSale.enc x).toArray 146) := putCells_top x z hn
theorem GAuctionSale.at_name {w : World} {a : Addr} {x : GAuctionSale} (h : get? GAuctionSale w a = some x) : w.cell? (a.add 0) = some (.string x.name) := (get?_iff.1 h) _ _ (lk146_0 x)
theorem GAuctionSale.at_vickrey {w : World} {a : Addr} {x : GAuctionSale} (h : get? GAuctionSale w a = some x) : w.cell? (a.add 1) = some (.bool x.vickrey) := (get?_iff.1 h) _ _ (lk146_1 x)
theorem GAuctionSale.at_reserve {w : World} {a : Addr} {x : GAuctionSale} (h : get? GAuctionSale w a = some x) : w.cell? (a.add 2) = some (.int .i64 x.reserve) := (get?_iff.1 h) _ _ (lk146_2 x)
theorem GAuctionSale.at_close {w : World} {a : Addr} {x : GAuctionSale} (h : get? GAuctionSale w a = some x) : w.cell? (a.add 3) = some (.int .u64 x.close) := (get?_iff.1 h) _ _ (lk146_3 x)
theorem GAuctionSale.at_bids {w : World} {a : Addr} {x : GAuctionSale} (h : get? GAuctionSale w a = some x) : w.cell? (a.add 4) = some (x.bids.val) := (get?_iff.1 h) _ _ (lk146_4 x)
theorem GAuctionSale.at_settled {w : World} {a : Addr} {x : GAuctionSale} (h : get? GAuctionSale w a = some x) : w.cell? (a.add 5) = some (.bool x.settled) := (get?_iff.1 h) _ _ (lk146_5 x)
theorem GAuctionSale.at_result {w : World} {a : Addr} {x : GAuctionSale} (h : get? GAuctionSale w a = some x) : get? GAuctionResult w (a.add 6) = some x.result := by
  rw [get?_iff] at h ⊢
  refine h.sub 6 fun j v hv => ?_
  have hd := ds146_6 x
  have hj : j < 3 := by have := (List.getElem?_eq_some_iff.1 hv).1; rwa [Enc.len] at this
  show x.enc[6 + j]? = some v
  rw [← List.getElem?_drop, ← List.getElem?_take_of_lt hj, hd]; exact hv
@[go_sem] theorem nl146_0 (x : GAuctionSale) : x.enc[0]? = some (.string x.name) := by
  have h := (GAuctionSale.at_name (get?_new (w := (default : World)) 146 x))
  simp only [Addr.add_lit, Nat.zero_add, Nat.reduceAdd, World.cell?_alloc_new, List.getElem?_toArray] at h
  exact h
@[go_sem] theorem nl146_1 (x : GAuctionSale) : x.enc[1]? = some (.bool x.vickrey) := by
  have h := (GAuctionSale.at_vickrey (get?_new (w := (default : World)) 146 x))
  simp only [Addr.add_lit, Nat.zero_add, Nat.reduceAdd, World.cell?_alloc_new, List.getElem?_toArray] at h
  exact h
@[go_sem] theorem nl146_2 (x : GAuctionSale) : x.enc[2]? = some (.int .i64 x.reserve) := by
  have h := (GAuctionSale.at_reserve (get?_new (w := (default : World)) 146 x))
  simp only [Addr.add_lit, Nat.zero_add, Nat.reduceAdd, World.cell?_alloc_new, List.getElem?_toArray] at h
  exact h
@[go_sem] theorem nl146_3 (x : GAuctionSale) : x.enc[3]? = some (.int .u64 x.close) := by
  have h := (GAuctionSale.at_close (get?_new (w := (default : World)) 146 x))
  simp only [Addr.add_lit, Nat.zero_add, Nat.reduceAdd, World.cell?_alloc_new, List.getElem?_toArray] at h
  exact h
@[go_sem] theorem nl146_4 (x : GAuctionSale) : x.enc[4]? = some (x.bids.val) := by
  have h := (GAuctionSale.at_bids (get?_new (w := (default : World)) 146 x))
  simp only [Addr.add_lit, Nat.zero_add, Nat.reduceAdd, World.cell?_alloc_new, List.getElem?_toArray] at h
  exact h
@[go_sem] theorem nl146_5 (x : GAuctionSale) : x.enc[5]? = some (.bool x.settled) := by
  have h := (GAuctionSale.at_settled (get?_new (w := (default : World)) 146 x))
  simp only [Addr.add_lit, Nat.zero_add, Nat.reduceAdd, World.cell?_alloc_new, List.getElem?_toArray] at h
  exact h
@[go_sem] theorem nw146_6_GAuctionResult (w : World) (n : Nat) (x : GAuctionSale) (hn : n = w.heap.size) : get? GAuctionResult (w.alloc (.cells (GAuctionSale.enc x).toArray 146)) ⟨n, 6, none⟩ = some x.result := by
  subst hn
  have h := (GAuctionSale.at_result (get?_new (w := w) 146 x))
  simp only [Addr.add_lit, Nat.zero_add, Nat.reduceAdd] at h
  exact h
@[go_sem] theorem nl146_6 (x : GAuctionSale) : x.enc[6]? = some (.string x.result.name) := by
  have h := (GAuctionResult.at_name (GAuctionSale.at_result (get?_new (w := (default : World)) 146 x)))
  simp only [Addr.add_lit, Nat.zero_add, Nat.reduceAdd, World.cell?_alloc_new, List.getElem?_toArray] at h
  exact h
@[go_sem] theorem nl146_7 (x : GAuctionSale) : x.enc[7]? = some (.int .i64 x.result.winner) := by
  have h := (GAuctionResult.at_winner (GAuctionSale.at_result (get?_new (w := (default : World)) 146 x)))
  simp only [Addr.add_lit, Nat.zero_add, Nat.reduceAdd, World.cell?_alloc_new, List.getElem?_toArray] at h
  exact h
@[go_sem] theorem nl146_8 (x : GAuctionSale) : x.enc[8]? = some (.int .i64 x.result.price) := by
  have h := (GAuctionResult.at_price (GAuctionSale.at_result (get?_new (w := (default : World)) 146 x)))
  simp only [Addr.add_lit, Nat.zero_add, Nat.reduceAdd, World.cell?_alloc_new, List.getElem?_toArray] at h
  exact h
@[go_sem] theorem nw146 (w : World) (n : Nat) (x : GAuctionSale) (hn : n = w.heap.size) : get? GAuctionSale (w.alloc (.cells (GAuctionSale.enc x).toArray 146)) ⟨n, 0, none⟩ = some x := by
  subst hn; exact get?_new 146 x
theorem pl146 : ((Try.prog.fieldsOf 146).toList.mapM fun f => (Try.prog.info? f.type).map fun i => (f.offset, i.size)) = some [(0, 1), (1, 1), (2, 1), (3, 1), (4, 1), (5, 1), (6, 3)] := by kernel_rfl
theorem fs146_0 (x : GAuctionSale) (v : ByteArray) (rest : List (Nat × Value)) : Instr.fill (fun i => ([(0, 1), (1, 1), (2, 1), (3, 1), (4, 1), (5, 1), (6, 3)] : List (Nat × Nat))[i]?) x.enc.toArray ((0, (.string v)) :: rest) = Instr.fill (fun i => ([(0, 1), (1, 1), (2, 1), (3, 1), (4, 1), (5, 1), (6, 3)] : List (Nat × Nat))[i]?) ({ x with name := v } : GAuctionSale).enc.toArray rest := by
  have h := fill_seg [(0, 1), (1, 1), (2, 1), (3, 1), (4, 1), (5, 1), (6, 3)] 0 0 1 rfl (([] : List Value)) ([(.string x.name)]) ([(.bool x.vickrey)] ++ ([(.int .i64 x.reserve)] ++ ([(.int .u64 x.close)] ++ ([(x.bids.val)] ++ ([(.bool x.settled)] ++ (x.result.enc ++ (([] : List Value)))))))) ([(.string v)]) (.string v) rest (rfl) (by simp [GAuctionResult.enc_len]) (by simp [GAuctionResult.enc_len]) (by simp [GAuctionResult.enc_len])
  have e1 : x.enc = (([] : List Value)) ++ ([(.string x.name)] ++ ([(.bool x.vickrey)] ++ ([(.int .i64 x.reserve)] ++ ([(.int .u64 x.close)] ++ ([(x.bids.val)] ++ ([(.bool x.settled)] ++ (x.result.enc ++ (([] : List Value))))))))) := by simp [GAuctionSale.enc]
  have e2 : ({ x with name := v } : GAuctionSale).enc = (([] : List Value)) ++ ([(.string v)] ++ ([(.bool x.vickrey)] ++ ([(.int .i64 x.reserve)] ++ ([(.int .u64 x.close)] ++ ([(x.bids.val)] ++ ([(.bool x.settled)] ++ (x.result.enc ++ (([] : List Value))))))))) := by simp [GAuctionSale.enc]
  rw [e1, e2]; exact h
theorem fs146_1 (x : GAuctionSale) (v : Bool) (rest : List (Nat × Value)) : Instr.fill (fun i => ([(0, 1), (1, 1), (2, 1), (3, 1), (4, 1), (5, 1), (6, 3)] : List (Nat × Nat))[i]?) x.enc.toArray ((1, (.bool v)) :: rest) = Instr.fill (fun i => ([(0, 1), (1, 1), (2, 1), (3, 1), (4, 1), (5, 1), (6, 3)] : List (Nat × Nat))[i]?) ({ x with vickrey := v } : GAuctionSale).enc.toArray rest := by
  have h := fill_seg [(0, 1), (1, 1), (2, 1), (3, 1), (4, 1), (5, 1), (6, 3)] 1 1 1 rfl (([] : List Value) ++ ([(.string x.name)])) ([(.bool x.vickrey)]) ([(.int .i64 x.reserve)] ++ ([(.int .u64 x.close)] ++ ([(x.bids.val)] ++ ([(.bool x.settled)] ++ (x.result.enc ++ (([] : List Value))))))) ([(.bool v)]) (.bool v) rest (rfl) (by simp [GAuctionResult.enc_len]) (by simp [GAuctionResult.enc_len]) (by simp [GAuctionResult.enc_len])
  have e1 : x.enc = (([] : List Value) ++ ([(.string x.name)])) ++ ([(.bool x.vickrey)] ++ ([(.int .i64 x.reserve)] ++ ([(.int .u64 x.close)] ++ ([(x.bids.val)] ++ ([(.bool x.settled)] ++ (x.result.enc ++ (([] : List Value)))))))) := by simp [GAuctionSale.enc]
  have e2 : ({ x with vickrey := v } : GAuctionSale).enc = (([] : List Value) ++ ([(.string x.name)])) ++ ([(.bool v)] ++ ([(.int .i64 x.reserve)] ++ ([(.int .u64 x.close)] ++ ([(x.bids.val)] ++ ([(.bool x.settled)] ++ (x.result.enc ++ (([] : List Value)))))))) := by simp [GAuctionSale.enc]
  rw [e1, e2]; exact h
theorem fs146_2 (x : GAuctionSale) (v : Int) (rest : List (Nat × Value)) : Instr.fill (fun i => ([(0, 1), (1, 1), (2, 1), (3, 1), (4, 1), (5, 1), (6, 3)] : List (Nat × Nat))[i]?) x.enc.toArray ((2, (.int .i64 v)) :: rest) = Instr.fill (fun i => ([(0, 1), (1, 1), (2, 1), (3, 1), (4, 1), (5, 1), (6, 3)] : List (Nat × Nat))[i]?) ({ x with reserve := v } : GAuctionSale).enc.toArray rest := by
  have h := fill_seg [(0, 1), (1, 1), (2, 1), (3, 1), (4, 1), (5, 1), (6, 3)] 2 2 1 rfl (([] : List Value) ++ ([(.string x.name)] ++ ([(.bool x.vickrey)]))) ([(.int .i64 x.reserve)]) ([(.int .u64 x.close)] ++ ([(x.bids.val)] ++ ([(.bool x.settled)] ++ (x.result.enc ++ (([] : List Value)))))) ([(.int .i64 v)]) (.int .i64 v) rest (rfl) (by simp [GAuctionResult.enc_len]) (by simp [GAuctionResult.enc_len]) (by simp [GAuctionResult.enc_len])
  have e1 : x.enc = (([] : List Value) ++ ([(.string x.name)] ++ ([(.bool x.vickrey)]))) ++ ([(.int .i64 x.reserve)] ++ ([(.int .u64 x.close)] ++ ([(x.bids.val)] ++ ([(.bool x.settled)] ++ (x.result.enc ++ (([] : List Value))))))) := by simp [GAuctionSale.enc]
  have e2 : ({ x with reserve := v } : GAuctionSale).enc = (([] : List Value) ++ ([(.string x.name)] ++ ([(.bool x.vickrey)]))) ++ ([(.int .i64 v)] ++ ([(.int .u64 x.close)] ++ ([(x.bids.val)] ++ ([(.bool x.settled)] ++ (x.result.enc ++ (([] : List Value))))))) := by simp [GAuctionSale.enc]
  rw [e1, e2]; exact h
theorem fs146_3 (x : GAuctionSale) (v : Int) (rest : List (Nat × Value)) : Instr.fill (fun i => ([(0, 1), (1, 1), (2, 1), (3, 1), (4, 1), (5, 1), (6, 3)] : List (Nat × Nat))[i]?) x.enc.toArray ((3, (.int .u64 v)) :: rest) = Instr.fill (fun i => ([(0, 1), (1, 1), (2, 1), (3, 1), (4, 1), (5, 1), (6, 3)] : List (Nat × Nat))[i]?) ({ x with close := v } : GAuctionSale).enc.toArray rest := by
  have h := fill_seg [(0, 1), (1, 1), (2, 1), (3, 1), (4, 1), (5, 1), (6, 3)] 3 3 1 rfl (([] : List Value) ++ ([(.string x.name)] ++ ([(.bool x.vickrey)] ++ ([(.int .i64 x.reserve)])))) ([(.int .u64 x.close)]) ([(x.bids.val)] ++ ([(.bool x.settled)] ++ (x.result.enc ++ (([] : List Value))))) ([(.int .u64 v)]) (.int .u64 v) rest (rfl) (by simp [GAuctionResult.enc_len]) (by simp [GAuctionResult.enc_len]) (by simp [GAuctionResult.enc_len])
  have e1 : x.enc = (([] : List Value) ++ ([(.string x.name)] ++ ([(.bool x.vickrey)] ++ ([(.int .i64 x.reserve)])))) ++ ([(.int .u64 x.close)] ++ ([(x.bids.val)] ++ ([(.bool x.settled)] ++ (x.result.enc ++ (([] : List Value)))))) := by simp [GAuctionSale.enc]
  have e2 : ({ x with close := v } : GAuctionSale).enc = (([] : List Value) ++ ([(.string x.name)] ++ ([(.bool x.vickrey)] ++ ([(.int .i64 x.reserve)])))) ++ ([(.int .u64 v)] ++ ([(x.bids.val)] ++ ([(.bool x.settled)] ++ (x.result.enc ++ (([] : List Value)))))) := by simp [GAuctionSale.enc]
  rw [e1, e2]; exact h
@[go_sem ↓ high] theorem xd_GAuctionSale (ρ : Operand → Value) (dst : Option Tmp) (ps : Array (Nat × Operand)) (ty : TypeId) (pos : String) (after : Array Edge) (guard : Option (Nat × Bool)) : execOp ρ { dst, op := .build 146 ps, type := ty, pos, after, guard } = (do pure (.value (← gBuild 146 (ps.map fun (i, x) => (i, ρ x))))) := ex_build ..
@[go_sem ↓ high] theorem bd146_0 (w : World) (v0 : ByteArray) (v1 : Bool) (v2 : Int) (v3 : Int) : (gBuild 146 #[(0, (.string v0)), (1, (.bool v1)), (2, (.int .i64 v2)), (3, (.int .u64 v3))]).run Try.prog w = .ok (GAuctionSale.val ⟨v0, v1, v2, v3, default, false, default⟩) w := by
  rw [GAuctionSale.val_eq]
  refine run_gBuild_of uu146 zr146 pl146 ?_ w
  show Instr.fill _ (GAuctionSale.enc default).toArray [(0, (.string v0)), (1, (.bool v1)), (2, (.int .i64 v2)), (3, (.int .u64 v3))] = _
  rw [fs146_0, fs146_1, fs146_2, fs146_3]; rfl

/-! ### gavel/auction.bid -/
structure GAuctionBid where
  client : Int
  amount : Int
deriving DecidableEq
instance : Inhabited GAuctionBid := ⟨⟨0, 0⟩⟩
def GAuctionBid.enc (x : GAuctionBid) : List Value := [(.int .i64 x.client)] ++ ([(.int .i64 x.amount)])
theorem GAuctionBid.enc_len (x : GAuctionBid) : x.enc.length = 2 := by simp [GAuctionBid.enc]
theorem GAuctionBid.enc_one (x : GAuctionBid) : ∀ u ∈ x.enc, u.oneCell' = true := by
  intro u hu
  simp only [GAuctionBid.enc, List.mem_append, List.mem_singleton] at hu
  rcases hu with hu | hu
  · subst hu; rfl
  · subst hu; rfl
theorem GAuctionBid.enc_inj (x y : GAuctionBid) (h : x.enc = y.enc) : x = y := by
  obtain ⟨a0, a1⟩ := x
  obtain ⟨b0, b1⟩ := y
  simp only [GAuctionBid.enc] at h
  obtain ⟨p0, q0⟩ := List.append_inj h (rfl)
  have e0 : a0 = b0 := by have := List.head_eq_of_cons_eq p0; injection this
  have e1 : a1 = b1 := by have := List.head_eq_of_cons_eq q0; injection this
  rw [e0, e1]
instance : Enc GAuctionBid where
  n := 2
  enc := GAuctionBid.enc
  pos := by omega
  len := GAuctionBid.enc_len
  one := GAuctionBid.enc_one
  inj := GAuctionBid.enc_inj
@[go_sem] theorem GAuctionBid.n_eq : Enc.n GAuctionBid = 2 := rfl
@[irreducible] def GAuctionBid.val (x : GAuctionBid) : Value := .agg x.enc.toArray
theorem GAuctionBid.val_eq (x : GAuctionBid) : GAuctionBid.val x = .agg (Enc.enc x).toArray := by unfold GAuctionBid.val; rfl
theorem GAuctionBid.ext_all (x y : GAuctionBid) : x = y ↔ x.client = y.client ∧ x.amount = y.amount := by
  constructor
  · intro h; cases h; simp
  · intro h; cases x; cases y; simp_all
theorem uu151 : Try.prog.underlying 151 = some (.struct (Try.prog.fieldsOf 151)) := by kernel_rfl
theorem st151 : Try.prog.stoodInHeld 151 = false := by kernel_rfl
theorem fl151 : fieldTO Try.prog 151 = [(3, 0), (3, 1)] := by kernel_rfl
theorem nb151 : noBlank Try.prog 151 = true := by kernel_rfl
@[go_sem ↓ high] theorem xl_GAuctionBid (ρ : Operand → Value) (dst : Option Tmp) (x : Operand) (ty : TypeId) (pos : String) (after : Array Edge) (guard : Option (Nat × Bool)) : execOp ρ { dst, op := .load 151 x, type := ty, pos, after, guard } = (do pure (.value (← gLoad 151 (ρ x)))) := ex_load ..
@[go_sem ↓ high] theorem xs_GAuctionBid (ρ : Operand → Value) (dst : Option Tmp) (x y : Operand) (ty : TypeId) (pos : String) (after : Array Edge) (guard : Option (Nat × Bool)) : execOp ρ { dst, op := .store 151 x y, type := ty, pos, after, guard } = (do gStore 151 (ρ x) (ρ y); pure .skip) := ex_store ..
@[go_sem ↓ high] theorem xb_GAuctionBid (ρ : Operand → Value) (dst : Option Tmp) (x : Operand) (ty : TypeId) (pos : String) (after : Array Edge) (guard : Option (Nat × Bool)) : execOp ρ { dst, op := .box 151 x, type := ty, pos, after, guard } = (do pure (.value (← gBox 151 (ρ x)))) := ex_box ..
@[go_sem ↓ high] theorem xa_GAuctionBid (ρ : Operand → Value) (dst : Option Tmp) (ty : TypeId) (pos : String) (after : Array Edge) (guard : Option (Nat × Bool)) : execOp ρ { dst, op := .alloc 151, type := ty, pos, after, guard } = (do pure (.value (← gAlloc 151))) := ex_alloc ..
theorem ag151 : aggT Try.prog 151 = true := by kernel_rfl
theorem sz151 : sizeT Try.prog 151 = 2 := by kernel_rfl
section
variable (w : World)
@[go_sem ↓ high] theorem ld_GAuctionBid (a : Addr) : (gLoad 151 (.pointer (some a))).run Try.prog w = ofOpt ((get? GAuctionBid w a).map GAuctionBid.val) w (noLoad Try.prog 151 a w) := by
  unfold gLoad; exact run_loadAt_opt ag151 sz151 GAuctionBid.val GAuctionBid.val_eq
@[go_sem ↓ high] theorem st_GAuctionBid (a : Addr) (x : GAuctionBid) : (gStore 151 (.pointer (some a)) (GAuctionBid.val x)).run Try.prog w = okU' ((get? GAuctionBid w a).isSome && blkFree w a.block) (World.putCells w a (GAuctionBid.enc x)) (noStore Try.prog 151 (.pointer (some a)) (GAuctionBid.val x) w) := run_gStore_any sz151 GAuctionBid.val GAuctionBid.val_eq w a x
@[go_sem ↓ high] theorem bx_GAuctionBid (x : GAuctionBid) : (gBox 151 (GAuctionBid.val x)).run Try.prog w = .ok (.pointer (some ⟨w.heap.size, 0, none⟩)) (w.alloc (.cells (GAuctionBid.enc x).toArray 151)) := by
  rw [GAuctionBid.val_eq]; exact run_gBox _ w
end
theorem lk151_0 (x : GAuctionBid) : x.enc[0]? = some (.int .i64 x.client) := by
  simp [GAuctionBid.enc, List.getElem?_append]
theorem pt151_0 (w : World) (x : GAuctionBid) : (part 3 x.enc.toArray 0).run Try.prog w = .ok (.int .i64 x.client) w := run_part_one na3 us3 (lk151_0 x)
@[go_sem ↓ high] theorem fd151_0 (w : World) (x : GAuctionBid) : (gField 151 (GAuctionBid.val x) 0).run Try.prog w = .ok (.int .i64 x.client) w := by
  rw [GAuctionBid.val_eq]
  exact run_gField w uu151 (by rw [fl151]; rfl) (pt151_0 w x)
theorem lk151_1 (x : GAuctionBid) : x.enc[1]? = some (.int .i64 x.amount) := by
  simp [GAuctionBid.enc, List.getElem?_append]
theorem pt151_1 (w : World) (x : GAuctionBid) : (part 3 x.enc.toArray 1).run Try.prog w = .ok (.int .i64 x.amount) w := run_part_one na3 us3 (lk151_1 x)
@[go_sem ↓ high] theorem fd151_1 (w : World) (x : GAuctionBid) : (gField 151 (GAuctionBid.val x) 1).run Try.prog w = .ok (.int .i64 x.amount) w := by
  rw [GAuctionBid.val_eq]
  exact run_gField w uu151 (by rw [fl151]; rfl) (pt151_1 w x)
@[go_sem ↓ high] theorem xf_GAuctionBid (ρ : Operand → Value) (dst : Option Tmp) (x : Operand) (i : Nat) (ty : TypeId) (pos : String) (after : Array Edge) (guard : Option (Nat × Bool)) : execOp ρ { dst, op := .field 151 x i, type := ty, pos, after, guard } = (do pure (.value (← gField 151 (ρ x) i))) := ex_field ..
theorem zr151 : zeroT Try.prog 151 = some (.agg (GAuctionBid.enc default).toArray) := by kernel_rfl
@[go_sem ↓ high] theorem al_GAuctionBid (w : World) : (gAlloc 151).run Try.prog w = .ok (.pointer (some ⟨w.heap.size, 0, none⟩)) (w.alloc (.cells (GAuctionBid.enc default).toArray 151)) := run_zero_alloc zr151 w
@[go_sem] theorem pc_GAuctionBid (w : World) (n : Nat) (x z : GAuctionBid) (hn : n = w.heap.size) : World.putCells (w.alloc (.cells (GAuctionBid.enc z).toArray 151)) ⟨n, 0, none⟩ (GAuctionBid.enc x) = w.alloc (.cells (GAuctionBid.enc x).toArray 151) := putCells_top x z hn
theorem GAuctionBid.at_client {w : World} {a : Addr} {x : GAuctionBid} (h : get? GAuctionBid w a = some x) : w.cell? (a.add 0) = some (.int .i64 x.client) := (get?_iff.1 h) _ _ (lk151_0 x)
theorem GAuctionBid.at_amount {w : World} {a : Addr} {x : GAuctionBid} (h : get? GAuctionBid w a = some x) : w.cell? (a.add 1) = some (.int .i64 x.amount) := (get?_iff.1 h) _ _ (lk151_1 x)
@[go_sem] theorem nl151_0 (x : GAuctionBid) : x.enc[0]? = some (.int .i64 x.client) := by
  have h := (GAuctionBid.at_client (get?_new (w := (default : World)) 151 x))
  simp only [Addr.add_lit, Nat.zero_add, Nat.reduceAdd, World.cell?_alloc_new, List.getElem?_toArray] at h
  exact h
@[go_sem] theorem nl151_1 (x : GAuctionBid) : x.enc[1]? = some (.int .i64 x.amount) := by
  have h := (GAuctionBid.at_amount (get?_new (w := (default : World)) 151 x))
  simp only [Addr.add_lit, Nat.zero_add, Nat.reduceAdd, World.cell?_alloc_new, List.getElem?_toArray] at h
  exact h
@[go_sem] theorem nw151 (w : World) (n : Nat) (x : GAuctionBid) (hn : n = w.heap.size) : get? GAuctionBid (w.alloc (.cells (GAuctionBid.enc x).toArray 151)) ⟨n, 0, none⟩ = some x := by
  subst hn; exact get?_new 151 x
theorem pl151 : ((Try.prog.fieldsOf 151).toList.mapM fun f => (Try.prog.info? f.type).map fun i => (f.offset, i.size)) = some [(0, 1), (1, 1)] := by kernel_rfl
theorem fs151_0 (x : GAuctionBid) (v : Int) (rest : List (Nat × Value)) : Instr.fill (fun i => ([(0, 1), (1, 1)] : List (Nat × Nat))[i]?) x.enc.toArray ((0, (.int .i64 v)) :: rest) = Instr.fill (fun i => ([(0, 1), (1, 1)] : List (Nat × Nat))[i]?) ({ x with client := v } : GAuctionBid).enc.toArray rest := by
  have h := fill_seg [(0, 1), (1, 1)] 0 0 1 rfl (([] : List Value)) ([(.int .i64 x.client)]) ([(.int .i64 x.amount)] ++ (([] : List Value))) ([(.int .i64 v)]) (.int .i64 v) rest (rfl) (by simp) (by simp) (by simp)
  have e1 : x.enc = (([] : List Value)) ++ ([(.int .i64 x.client)] ++ ([(.int .i64 x.amount)] ++ (([] : List Value)))) := by simp [GAuctionBid.enc]
  have e2 : ({ x with client := v } : GAuctionBid).enc = (([] : List Value)) ++ ([(.int .i64 v)] ++ ([(.int .i64 x.amount)] ++ (([] : List Value)))) := by simp [GAuctionBid.enc]
  rw [e1, e2]; exact h
theorem fs151_1 (x : GAuctionBid) (v : Int) (rest : List (Nat × Value)) : Instr.fill (fun i => ([(0, 1), (1, 1)] : List (Nat × Nat))[i]?) x.enc.toArray ((1, (.int .i64 v)) :: rest) = Instr.fill (fun i => ([(0, 1), (1, 1)] : List (Nat × Nat))[i]?) ({ x with amount := v } : GAuctionBid).enc.toArray rest := by
  have h := fill_seg [(0, 1), (1, 1)] 1 1 1 rfl (([] : List Value) ++ ([(.int .i64 x.client)])) ([(.int .i64 x.amount)]) (([] : List Value)) ([(.int .i64 v)]) (.int .i64 v) rest (rfl) (by simp) (by simp) (by simp)
  have e1 : x.enc = (([] : List Value) ++ ([(.int .i64 x.client)])) ++ ([(.int .i64 x.amount)] ++ (([] : List Value))) := by simp [GAuctionBid.enc]
  have e2 : ({ x with amount := v } : GAuctionBid).enc = (([] : List Value) ++ ([(.int .i64 x.client)])) ++ ([(.int .i64 v)] ++ (([] : List Value))) := by simp [GAuctionBid.enc]
  rw [e1, e2]; exact h
@[go_sem ↓ high] theorem xd_GAuctionBid (ρ : Operand → Value) (dst : Option Tmp) (ps : Array (Nat × Operand)) (ty : TypeId) (pos : String) (after : Array Edge) (guard : Option (Nat × Bool)) : execOp ρ { dst, op := .build 151 ps, type := ty, pos, after, guard } = (do pure (.value (← gBuild 151 (ps.map fun (i, x) => (i, ρ x))))) := ex_build ..
@[go_sem ↓ high] theorem bd151_0 (w : World) (v0 : Int) (v1 : Int) : (gBuild 151 #[(0, (.int .i64 v0)), (1, (.int .i64 v1))]).run Try.prog w = .ok (GAuctionBid.val ⟨v0, v1⟩) w := by
  rw [GAuctionBid.val_eq]
  refine run_gBuild_of uu151 zr151 pl151 ?_ w
  show Instr.fill _ (GAuctionBid.enc default).toArray [(0, (.int .i64 v0)), (1, (.int .i64 v1))] = _
  rw [fs151_0, fs151_1]; rfl
theorem eq_GAuctionBid (w : World) (d : Nat) (x y : GAuctionBid) : (Op.equalIn (d + 2) 151 (GAuctionBid.val x) (GAuctionBid.val y)).run Try.prog w = .ok (decide (x = y)) w := by
  have q0 : ∀ a b, (Op.equalIn (d + 1) 3 (.int .i64 a) (.int .i64 b)).run Try.prog w = .ok (decide (a = b)) w := fun a b => by rw [run_equalIn_int w (d + 0) 3 .i64 .i64 a b uk3]; congr 1
  have q1 : ∀ a b, (Op.equalIn (d + 1) 3 (.int .i64 a) (.int .i64 b)).run Try.prog w = .ok (decide (a = b)) w := fun a b => by rw [run_equalIn_int w (d + 0) 3 .i64 .i64 a b uk3]; congr 1
  have h := run_equalIn_fields (d + 1) x.enc.toArray y.enc.toArray w uu151 st151 nb151
  rw [fl151] at h
  unfold GAuctionBid.val
  refine h.trans ?_
  clear h
  simp only [eqFs, Sem.run_bind, pt151_0, pt151_1, q0, q1, Result.andThen_ok, Sem.run_ite, Sem.run_pure]
  have he : decide (x = y) = (decide (x.client = y.client) && (decide (x.amount = y.amount))) := by
    rw [Bool.eq_iff_iff]; simp only [Bool.and_eq_true, decide_eq_true_eq]; exact GAuctionBid.ext_all x y
  rw [he]
  generalize decide (x.client = y.client) = c0; generalize decide (x.amount = y.amount) = c1
  cases c0 <;> cases c1 <;> simp
@[go_sem ↓ high] theorem xq_GAuctionBid (ρ : Operand → Value) (dst : Option Tmp) (x y : Operand) (ty yt : TypeId) (pos : String) (after : Array Edge) (guard : Option (Nat × Bool)) : execOp ρ { dst, op := .binOp .eql 151 x y yt, type := ty, pos, after, guard } = (do pure (.value (← gBin .eql 151 x y (ρ x) (ρ y)))) := ex_eql ..
@[go_sem ↓ high] theorem xn_GAuctionBid (ρ : Operand → Value) (dst : Option Tmp) (x y : Operand) (ty yt : TypeId) (pos : String) (after : Array Edge) (guard : Option (Nat × Bool)) : execOp ρ { dst, op := .binOp .neq 151 x y yt, type := ty, pos, after, guard } = (do pure (.value (← gBin .neq 151 x y (ρ x) (ρ y)))) := ex_neq ..
theorem eg_GAuctionBid : Try.prog.eqGuardType Try.prog.depth 151 = false := by kernel_rfl
@[go_sem ↓ high] theorem eql_GAuctionBid (w : World) (ox oy : Operand) (x y : GAuctionBid) : (gBin .eql 151 ox oy (GAuctionBid.val x) (GAuctionBid.val y)).run Try.prog w = .ok (.bool (decide (x = y))) w := by
  have h2 := eq_GAuctionBid w 9998 x y
  rw [GAuctionBid.val_eq, GAuctionBid.val_eq] at h2 ⊢
  have h := run_eqGuard_agg (P := Try.prog) w .eql 151 ox oy (Enc.enc x).toArray (Enc.enc y).toArray eg_GAuctionBid
  unfold gBin
  simp only [Sem.run_bind, h, Result.andThen_ok, run_eql_struct, h2]
@[go_sem ↓ high] theorem neq_GAuctionBid (w : World) (ox oy : Operand) (x y : GAuctionBid) : (gBin .neq 151 ox oy (GAuctionBid.val x) (GAuctionBid.val y)).run Try.prog w = .ok (.bool (!decide (x = y))) w := by
  have h2 := eq_GAuctionBid w 9998 x y
  rw [GAuctionBid.val_eq, GAuctionBid.val_eq] at h2 ⊢
  have h := run_eqGuard_agg (P := Try.prog) w .neq 151 ox oy (Enc.enc x).toArray (Enc.enc y).toArray eg_GAuctionBid
  unfold gBin
  simp only [Sem.run_bind, h, Result.andThen_ok, run_neq_struct, h2]

/-! ### gavel/auction.House -/
structure GAuctionHouse where
  m : Option Nat
deriving DecidableEq
instance : Inhabited GAuctionHouse := ⟨⟨none⟩⟩
def GAuctionHouse.enc (x : GAuctionHouse) : List Value := [(.map x.m)]
theorem GAuctionHouse.enc_len (x : GAuctionHouse) : x.enc.length = 1 := by simp [GAuctionHouse.enc]
theorem GAuctionHouse.enc_one (x : GAuctionHouse) : ∀ u ∈ x.enc, u.oneCell' = true := by
  intro u hu
  simp only [GAuctionHouse.enc, List.mem_append, List.mem_singleton] at hu
  subst hu; rfl
theorem GAuctionHouse.enc_inj (x y : GAuctionHouse) (h : x.enc = y.enc) : x = y := by
  obtain ⟨a0⟩ := x
  obtain ⟨b0⟩ := y
  simp only [GAuctionHouse.enc] at h
  have e0 : a0 = b0 := by have := List.head_eq_of_cons_eq h; injection this
  rw [e0]
instance : Enc GAuctionHouse where
  n := 1
  enc := GAuctionHouse.enc
  pos := by omega
  len := GAuctionHouse.enc_len
  one := GAuctionHouse.enc_one
  inj := GAuctionHouse.enc_inj
@[go_sem] theorem GAuctionHouse.n_eq : Enc.n GAuctionHouse = 1 := rfl
@[irreducible] def GAuctionHouse.val (x : GAuctionHouse) : Value := .agg x.enc.toArray
theorem GAuctionHouse.val_eq (x : GAuctionHouse) : GAuctionHouse.val x = .agg (Enc.enc x).toArray := by unfold GAuctionHouse.val; rfl
theorem GAuctionHouse.ext_all (x y : GAuctionHouse) : x = y ↔ x.m = y.m := by
  constructor
  · intro h; cases h; simp
  · intro h; cases x; cases y; simp_all
theorem uu143 : Try.prog.underlying 143 = some (.struct (Try.prog.fieldsOf 143)) := by kernel_rfl
theorem st143 : Try.prog.stoodInHeld 143 = false := by kernel_rfl
theorem fl143 : fieldTO Try.prog 143 = [(141, 0)] := by kernel_rfl
theorem nb143 : noBlank Try.prog 143 = true := by kernel_rfl
@[go_sem ↓ high] theorem xl_GAuctionHouse (ρ : Operand → Value) (dst : Option Tmp) (x : Operand) (ty : TypeId) (pos : String) (after : Array Edge) (guard : Option (Nat × Bool)) : execOp ρ { dst, op := .load 143 x, type := ty, pos, after, guard } = (do pure (.value (← gLoad 143 (ρ x)))) := ex_load ..
@[go_sem ↓ high] theorem xs_GAuctionHouse (ρ : Operand → Value) (dst : Option Tmp) (x y : Operand) (ty : TypeId) (pos : String) (after : Array Edge) (guard : Option (Nat × Bool)) : execOp ρ { dst, op := .store 143 x y, type := ty, pos, after, guard } = (do gStore 143 (ρ x) (ρ y); pure .skip) := ex_store ..
@[go_sem ↓ high] theorem xb_GAuctionHouse (ρ : Operand → Value) (dst : Option Tmp) (x : Operand) (ty : TypeId) (pos : String) (after : Array Edge) (guard : Option (Nat × Bool)) : execOp ρ { dst, op := .box 143 x, type := ty, pos, after, guard } = (do pure (.value (← gBox 143 (ρ x)))) := ex_box ..
@[go_sem ↓ high] theorem xa_GAuctionHouse (ρ : Operand → Value) (dst : Option Tmp) (ty : TypeId) (pos : String) (after : Array Edge) (guard : Option (Nat × Bool)) : execOp ρ { dst, op := .alloc 143, type := ty, pos, after, guard } = (do pure (.value (← gAlloc 143))) := ex_alloc ..
theorem ag143 : aggT Try.prog 143 = true := by kernel_rfl
theorem sz143 : sizeT Try.prog 143 = 1 := by kernel_rfl
section
variable (w : World)
@[go_sem ↓ high] theorem ld_GAuctionHouse (a : Addr) : (gLoad 143 (.pointer (some a))).run Try.prog w = ofOpt ((get? GAuctionHouse w a).map GAuctionHouse.val) w (noLoad Try.prog 143 a w) := by
  unfold gLoad; exact run_loadAt_opt ag143 sz143 GAuctionHouse.val GAuctionHouse.val_eq
@[go_sem ↓ high] theorem st_GAuctionHouse (a : Addr) (x : GAuctionHouse) : (gStore 143 (.pointer (some a)) (GAuctionHouse.val x)).run Try.prog w = okU' ((get? GAuctionHouse w a).isSome && blkFree w a.block) (World.putCells w a (GAuctionHouse.enc x)) (noStore Try.prog 143 (.pointer (some a)) (GAuctionHouse.val x) w) := run_gStore_any sz143 GAuctionHouse.val GAuctionHouse.val_eq w a x
@[go_sem ↓ high] theorem bx_GAuctionHouse (x : GAuctionHouse) : (gBox 143 (GAuctionHouse.val x)).run Try.prog w = .ok (.pointer (some ⟨w.heap.size, 0, none⟩)) (w.alloc (.cells (GAuctionHouse.enc x).toArray 143)) := by
  rw [GAuctionHouse.val_eq]; exact run_gBox _ w
end
theorem lk143_0 (x : GAuctionHouse) : x.enc[0]? = some (.map x.m) := by
  simp [GAuctionHouse.enc, List.getElem?_append]
theorem pt143_0 (w : World) (x : GAuctionHouse) : (part 141 x.enc.toArray 0).run Try.prog w = .ok (.map x.m) w := run_part_one na141 us141 (lk143_0 x)
@[go_sem ↓ high] theorem fd143_0 (w : World) (x : GAuctionHouse) : (gField 143 (GAuctionHouse.val x) 0).run Try.prog w = .ok (.map x.m) w := by
  rw [GAuctionHouse.val_eq]
  exact run_gField w uu143 (by rw [fl143]; rfl) (pt143_0 w x)
@[go_sem ↓ high] theorem xf_GAuctionHouse (ρ : Operand → Value) (dst : Option Tmp) (x : Operand) (i : Nat) (ty : TypeId) (pos : String) (after : Array Edge) (guard : Option (Nat × Bool)) : execOp ρ { dst, op := .field 143 x i, type := ty, pos, after, guard } = (do pure (.value (← gField 143 (ρ x) i))) := ex_field ..
theorem zr143 : zeroT Try.prog 143 = some (.agg (GAuctionHouse.enc default).toArray) := by kernel_rfl
@[go_sem ↓ high] theorem al_GAuctionHouse (w : World) : (gAlloc 143).run Try.prog w = .ok (.pointer (some ⟨w.heap.size, 0, none⟩)) (w.alloc (.cells (GAuctionHouse.enc default).toArray 143)) := run_zero_alloc zr143 w
@[go_sem] theorem pc_GAuctionHouse (w : World) (n : Nat) (x z : GAuctionHouse) (hn : n = w.heap.size) : World.putCells (w.alloc (.cells (GAuctionHouse.enc z).toArray 143)) ⟨n, 0, none⟩ (GAuctionHouse.enc x) = w.alloc (.cells (GAuctionHouse.enc x).toArray 143) := putCells_top x z hn
theorem GAuctionHouse.at_m {w : World} {a : Addr} {x : GAuctionHouse} (h : get? GAuctionHouse w a = some x) : w.cell? (a.add 0) = some (.map x.m) := (get?_iff.1 h) _ _ (lk143_0 x)
@[go_sem] theorem nl143_0 (x : GAuctionHouse) : x.enc[0]? = some (.map x.m) := by
  have h := (GAuctionHouse.at_m (get?_new (w := (default : World)) 143 x))
  simp only [Addr.add_lit, Nat.zero_add, Nat.reduceAdd, World.cell?_alloc_new, List.getElem?_toArray] at h
  exact h
@[go_sem] theorem nw143 (w : World) (n : Nat) (x : GAuctionHouse) (hn : n = w.heap.size) : get? GAuctionHouse (w.alloc (.cells (GAuctionHouse.enc x).toArray 143)) ⟨n, 0, none⟩ = some x := by
  subst hn; exact get?_new 143 x
theorem pl143 : ((Try.prog.fieldsOf 143).toList.mapM fun f => (Try.prog.info? f.type).map fun i => (f.offset, i.size)) = some [(0, 1)] := by kernel_rfl
theorem fs143_0 (x : GAuctionHouse) (v : Option Nat) (rest : List (Nat × Value)) : Instr.fill (fun i => ([(0, 1)] : List (Nat × Nat))[i]?) x.enc.toArray ((0, (.map v)) :: rest) = Instr.fill (fun i => ([(0, 1)] : List (Nat × Nat))[i]?) ({ x with m := v } : GAuctionHouse).enc.toArray rest := by
  have h := fill_seg [(0, 1)] 0 0 1 rfl (([] : List Value)) ([(.map x.m)]) (([] : List Value)) ([(.map v)]) (.map v) rest (rfl) (by simp) (by simp) (by simp)
  have e1 : x.enc = (([] : List Value)) ++ ([(.map x.m)] ++ (([] : List Value))) := by simp [GAuctionHouse.enc]
  have e2 : ({ x with m := v } : GAuctionHouse).enc = (([] : List Value)) ++ ([(.map v)] ++ (([] : List Value))) := by simp [GAuctionHouse.enc]
  rw [e1, e2]; exact h
@[go_sem ↓ high] theorem xd_GAuctionHouse (ρ : Operand → Value) (dst : Option Tmp) (ps : Array (Nat × Operand)) (ty : TypeId) (pos : String) (after : Array Edge) (guard : Option (Nat × Bool)) : execOp ρ { dst, op := .build 143 ps, type := ty, pos, after, guard } = (do pure (.value (← gBuild 143 (ps.map fun (i, x) => (i, ρ x))))) := ex_build ..
@[go_sem ↓ high] theorem bd143_0 (w : World) (v0 : Option Nat) : (gBuild 143 #[(0, (.map v0))]).run Try.prog w = .ok (GAuctionHouse.val ⟨v0⟩) w := by
  rw [GAuctionHouse.val_eq]
  refine run_gBuild_of uu143 zr143 pl143 ?_ w
  show Instr.fill _ (GAuctionHouse.enc default).toArray [(0, (.map v0))] = _
  rw [fs143_0]; rfl
/-! ### []auction.bid -/
theorem ei144 : ElemI Try.prog 144 151 GAuctionBid 16 := ⟨by kernel_rfl, by kernel_rfl⟩
@[go_sem ↓ high] theorem xg_144 (ρ : Operand → Value) (dst : Option Tmp) (ps : Array (Nat × Operand)) (ty : TypeId) (pos : String) (after : Array Edge) (guard : Option (Nat × Bool)) : execOp ρ { dst, op := .buildSlice 144 1 ps, type := ty, pos, after, guard } = (do pure (.value (← gBuildSlice 144 1 (ps.map fun (i, x) => (i, ρ x))))) := ex_buildSlice ..
@[go_sem ↓ high] theorem bs_144 (w : World) (x : GAuctionBid) : (gBuildSlice 144 1 #[(0, GAuctionBid.val x)]).run Try.prog w = .ok (.slice (some ⟨w.heap.size, 0, none⟩) 1 1) (w.alloc (.cells (GAuctionBid.enc x).toArray 151)) := by
  rw [GAuctionBid.val_eq]; exact run_buildSlice_one ei144 (by decide) x w
/-! ### []auction.sale -/
theorem ei154 : ElemI Try.prog 154 146 GAuctionSale 104 := ⟨by kernel_rfl, by kernel_rfl⟩
@[go_sem ↓ high] theorem xg_154 (ρ : Operand → Value) (dst : Option Tmp) (ps : Array (Nat × Operand)) (ty : TypeId) (pos : String) (after : Array Edge) (guard : Option (Nat × Bool)) : execOp ρ { dst, op := .buildSlice 154 1 ps, type := ty, pos, after, guard } = (do pure (.value (← gBuildSlice 154 1 (ps.map fun (i, x) => (i, ρ x))))) := ex_buildSlice ..
@[go_sem ↓ high] theorem bs_154 (w : World) (x : GAuctionSale) : (gBuildSlice 154 1 #[(0, GAuctionSale.val x)]).run Try.prog w = .ok (.slice (some ⟨w.heap.size, 0, none⟩) 1 1) (w.alloc (.cells (GAuctionSale.enc x).toArray 146)) := by
  rw [GAuctionSale.val_eq]; exact run_buildSlice_one ei154 (by decide) x w
/-! ### []auction.Result -/
theorem ei56 : ElemI Try.prog 56 59 GAuctionResult 32 := ⟨by kernel_rfl, by kernel_rfl⟩
@[go_sem ↓ high] theorem xg_56 (ρ : Operand → Value) (dst : Option Tmp) (ps : Array (Nat × Operand)) (ty : TypeId) (pos : String) (after : Array Edge) (guard : Option (Nat × Bool)) : execOp ρ { dst, op := .buildSlice 56 1 ps, type := ty, pos, after, guard } = (do pure (.value (← gBuildSlice 56 1 (ps.map fun (i, x) => (i, ρ x))))) := ex_buildSlice ..
@[go_sem ↓ high] theorem bs_56 (w : World) (x : GAuctionResult) : (gBuildSlice 56 1 #[(0, GAuctionResult.val x)]).run Try.prog w = .ok (.slice (some ⟨w.heap.size, 0, none⟩) 1 1) (w.alloc (.cells (GAuctionResult.enc x).toArray 59)) := by
  rw [GAuctionResult.val_eq]; exact run_buildSlice_one ei56 (by decide) x w
theorem kl9 : KeyLaws Try.prog 9 ByteArray := keyLaws_string uk9
instance : VEnc GAuctionSale := ⟨GAuctionSale.val, fun a b h => by rw [GAuctionSale.val_eq, GAuctionSale.val_eq] at h; injection h with h; exact Enc.inj _ _ (by simpa using congrArg Array.toList h)⟩

/-! ### map[string]auction.sale -/
theorem um141 : Try.prog.underlying 141 = some (.map 9 146) := by kernel_rfl
theorem zv141_146 : zeroT Try.prog 146 = some (VEnc.vv (default : GAuctionSale)) := by kernel_rfl
@[go_sem ↓ high] theorem xk_141 (ρ : Operand → Value) (dst : Option Tmp) (x y : Operand) (ok : Bool) (ty : TypeId) (pos : String) (after : Array Edge) (guard : Option (Nat × Bool)) : execOp ρ { dst, op := .lookup 141 x y ok, type := ty, pos, after, guard } = (do pure (.value (← gLookup 141 (ρ x) (ρ y) ok))) := ex_lookup ..
@[go_sem ↓ high] theorem xu_141 (ρ : Operand → Value) (dst : Option Tmp) (x y z : Operand) (ty : TypeId) (pos : String) (after : Array Edge) (guard : Option (Nat × Bool)) : execOp ρ { dst, op := .mapUpdate 141 x y z, type := ty, pos, after, guard } = (do gMapUpdate 141 (ρ x) (ρ y) (ρ z); pure .skip) := ex_mapUpdate ..
@[go_sem ↓ high] theorem lk_141 (w : World) (r : Nat) (k : ByteArray) : (gLookup 141 (.map (some r)) (.string k) false).run Try.prog w = ofOpt ((mapAt ByteArray GAuctionSale w r).map fun m => (GAuctionSale.val ((mget m k).getD default))) w (noLookup Try.prog 141 (.map (some r)) (.string k) false w) :=
  run_gLookup kl9 um141 zv141_146 w r k
@[go_sem ↓ high] theorem lo_141 (w : World) (r : Nat) (k : ByteArray) : (gLookup 141 (.map (some r)) (.string k) true).run Try.prog w = ofOpt ((mapAt ByteArray GAuctionSale w r).map fun m => .tuple #[(GAuctionSale.val ((mget m k).getD default)), .bool (mget m k).isSome]) w (noLookup Try.prog 141 (.map (some r)) (.string k) true w) :=
  run_gLookup_ok kl9 um141 zv141_146 w r k
@[go_sem ↓ high] theorem ln_141 (w : World) (k : ByteArray) : (gLookup 141 (.map none) (.string k) false).run Try.prog w = .ok (GAuctionSale.val (default : GAuctionSale)) w :=
  run_gLookup_nil kl9 um141 zv141_146 w k
@[go_sem ↓ high] theorem mu_141 (w : World) (r : Nat) (k : ByteArray) (v : GAuctionSale) : (gMapUpdate 141 (.map (some r)) (.string k) (GAuctionSale.val v)).run Try.prog w = okU ((mapAt ByteArray GAuctionSale w r).isSome) (mput Try.prog 141 w r k v) (noUpdate Try.prog 141 (.map (some r)) (.string k) (GAuctionSale.val v) w) :=
  run_gMapUpdate kl9 um141 w r k v
@[go_sem] theorem sz_mput_141 (w : World) (r : Nat) (k : ByteArray) (v : GAuctionSale) (h : (mapAt ByteArray GAuctionSale w r).isSome = true) : (mput Try.prog 141 w r k v).heap.size = w.heap.size := by
  obtain ⟨m, hm⟩ := Option.isSome_iff_exists.1 h; exact mput_size kl9 um141 hm k v

end Go.Proofs.Yteockodnfempfaa
