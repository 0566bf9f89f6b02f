/- The struct types of this seat as Lean types, with the runs of single operations over them. Conditions: those named in each theorem. -/
import Derived.Test.YtfhhcgldikmejaaGreatDoorP2
/- The struct types of this seat as Lean types, with the runs of single operations over them. Conditions: those named in each theorem. -/
namespace Go.Proofs.YtfhhcgldikmejaaGreatDoor
open Go Go.RowKit Go.Gv
set_option linter.unusedSimpArgs false

/-! ### gavel/tally.Tally -/
structure GTallyTally where
  c : GConf
  have_ : Option Nat
  count : Option Nat
  all : Option Nat
  last : Option Nat
deriving DecidableEq
instance : Inhabited GTallyTally := ⟨⟨default, none, none, none, none⟩⟩
def GTallyTally.enc (x : GTallyTally) : List Value := x.c.enc ++ ([(.map x.have_)] ++ ([(.map x.count)] ++ ([(.map x.all)] ++ ([(.map x.last)]))))
theorem GTallyTally.enc_len (x : GTallyTally) : x.enc.length = 6 := by simp [GTallyTally.enc, GConf.enc_len]
theorem GTallyTally.enc_one (x : GTallyTally) : ∀ u ∈ x.enc, u.oneCell' = true := by
  intro u hu
  simp only [GTallyTally.enc, List.mem_append, List.mem_singleton] at hu
  rcases hu with hu | hu | hu | hu | hu
  · exact Enc.one (α := GConf) _ _ hu
  · subst hu; rfl
  · subst hu; rfl
  · subst hu; rfl
  · subst hu; rfl
theorem GTallyTally.enc_inj (x y : GTallyTally) (h : x.enc = y.enc) : x = y := by
  obtain ⟨a0, a1, a2, a3, a4⟩ := x
  obtain ⟨b0, b1, b2, b3, b4⟩ := y
  simp only [GTallyTally.enc] at h
  obtain ⟨p0, q0⟩ := List.append_inj h (by simp [GConf.enc_len])
  have e0 := Enc.inj (α := GConf) _ _ p0
  obtain ⟨p1, q1⟩ := List.append_inj q0 (rfl)
  have e1 : a1 = b1 := by have := List.head_eq_of_cons_eq p1; injection this
  obtain ⟨p2, q2⟩ := List.append_inj q1 (rfl)
  have e2 : a2 = b2 := by have := List.head_eq_of_cons_eq p2; injection this
  obtain ⟨p3, q3⟩ := List.append_inj q2 (rfl)
  have e3 : a3 = b3 := by have := List.head_eq_of_cons_eq p3; injection this
  have e4 : a4 = b4 := by have := List.head_eq_of_cons_eq q3; injection this
  rw [e0, e1, e2, e3, e4]
instance : Enc GTallyTally where
  n := 6
  enc := GTallyTally.enc
  pos := by omega
  len := GTallyTally.enc_len
  one := GTallyTally.enc_one
  inj := GTallyTally.enc_inj
@[go_sem] theorem GTallyTally.n_eq : Enc.n GTallyTally = 6 := rfl
@[irreducible] def GTallyTally.val (x : GTallyTally) : Value := .agg x.enc.toArray
theorem GTallyTally.val_eq (x : GTallyTally) : GTallyTally.val x = .agg (Enc.enc x).toArray := by unfold GTallyTally.val; rfl
theorem uu336 : Tryz.prog.underlying 336 = some (.struct (Tryz.prog.fieldsOf 336)) := by kernel_rfl
@[go_sem ↓ high] theorem xb_GTallyTally (ρ : Operand → Value) (dst : Option Tmp) (x : Operand) (ty : TypeId) (pos : String) (after : Array Edge) (guard : Option (Nat × Bool)) : execOp ρ { dst, op := .box 336 x, type := ty, pos, after, guard } = (do pure (.value (← gBox 336 (ρ x)))) := ex_box ..
section
variable (w : World)
@[go_sem ↓ high] theorem bx_GTallyTally (x : GTallyTally) : (gBox 336 (GTallyTally.val x)).run Tryz.prog w = .ok (.pointer (some ⟨w.heap.size, 0, none⟩)) (w.alloc (.cells (GTallyTally.enc x).toArray 336)) := by
  rw [GTallyTally.val_eq]; exact run_gBox _ w
end
theorem lk336_3 (x : GTallyTally) : x.enc[4]? = some (.map x.all) := by
  simp [GTallyTally.enc, List.getElem?_append, GConf.enc_len]
theorem lk336_4 (x : GTallyTally) : x.enc[5]? = some (.map x.last) := by
  simp [GTallyTally.enc, List.getElem?_append, GConf.enc_len]
theorem zr336 : zeroT Tryz.prog 336 = some (.agg (GTallyTally.enc default).toArray) := by kernel_rfl
theorem GTallyTally.at_all {w : World} {a : Addr} {x : GTallyTally} (h : get? GTallyTally w a = some x) : w.cell? (a.add 4) = some (.map x.all) := (get?_iff.1 h) _ _ (lk336_3 x)
theorem GTallyTally.at_last {w : World} {a : Addr} {x : GTallyTally} (h : get? GTallyTally w a = some x) : w.cell? (a.add 5) = some (.map x.last) := (get?_iff.1 h) _ _ (lk336_4 x)
@[go_sem] theorem nw336 (w : World) (n : Nat) (x : GTallyTally) (hn : n = w.heap.size) : get? GTallyTally (w.alloc (.cells (GTallyTally.enc x).toArray 336)) ⟨n, 0, none⟩ = some x := by
  subst hn; exact get?_new 336 x
theorem pl336 : ((Tryz.prog.fieldsOf 336).toList.mapM fun f => (Tryz.prog.info? f.type).map fun i => (f.offset, i.size)) = some [(0, 2), (2, 1), (3, 1), (4, 1), (5, 1)] := by kernel_rfl
theorem fs336_0 (x : GTallyTally) (v : GConf) (rest : List (Nat × Value)) : Instr.fill (fun i => ([(0, 2), (2, 1), (3, 1), (4, 1), (5, 1)] : List (Nat × Nat))[i]?) x.enc.toArray ((0, (v.val)) :: rest) = Instr.fill (fun i => ([(0, 2), (2, 1), (3, 1), (4, 1), (5, 1)] : List (Nat × Nat))[i]?) ({ x with c := v } : GTallyTally).enc.toArray rest := by
  have h := fill_seg [(0, 2), (2, 1), (3, 1), (4, 1), (5, 1)] 0 0 2 rfl (([] : List Value)) (x.c.enc) ([(.map x.have_)] ++ ([(.map x.count)] ++ ([(.map x.all)] ++ ([(.map x.last)] ++ (([] : List Value)))))) (v.enc) (v.val) rest (by rw [GConf.val_eq]; rfl) (by simp [GConf.enc_len]) (by simp [GConf.enc_len]) (by simp [GConf.enc_len])
  have e1 : x.enc = (([] : List Value)) ++ (x.c.enc ++ ([(.map x.have_)] ++ ([(.map x.count)] ++ ([(.map x.all)] ++ ([(.map x.last)] ++ (([] : List Value))))))) := by simp only [GTallyTally.enc, List.nil_append, List.append_assoc, List.append_nil]
  have e2 : ({ x with c := v } : GTallyTally).enc = (([] : List Value)) ++ (v.enc ++ ([(.map x.have_)] ++ ([(.map x.count)] ++ ([(.map x.all)] ++ ([(.map x.last)] ++ (([] : List Value))))))) := by simp only [GTallyTally.enc, List.nil_append, List.append_assoc, List.append_nil]
  rw [e1, e2]; exact h
theorem fs336_1 (x : GTallyTally) (v : Option Nat) (rest : List (Nat × Value)) : Instr.fill (fun i => ([(0, 2), (2, 1), (3, 1), (4, 1), (5, 1)] : List (Nat × Nat))[i]?) x.enc.toArray ((1, (.map v)) :: rest) = Instr.fill (fun i => ([(0, 2), (2, 1), (3, 1), (4, 1), (5, 1)] : List (Nat × Nat))[i]?) ({ x with have_ := v } : GTallyTally).enc.toArray rest := by
  have h := fill_seg [(0, 2), (2, 1), (3, 1), (4, 1), (5, 1)] 1 2 1 rfl (([] : List Value) ++ (x.c.enc)) ([(.map x.have_)]) ([(.map x.count)] ++ ([(.map x.all)] ++ ([(.map x.last)] ++ (([] : List Value))))) ([(.map v)]) (.map v) rest (rfl) (by simp [GConf.enc_len]) (by simp [GConf.enc_len]) (by simp [GConf.enc_len])
  have e1 : x.enc = (([] : List Value) ++ (x.c.enc)) ++ ([(.map x.have_)] ++ ([(.map x.count)] ++ ([(.map x.all)] ++ ([(.map x.last)] ++ (([] : List Value)))))) := by simp only [GTallyTally.enc, List.nil_append, List.append_assoc, List.append_nil]
  have e2 : ({ x with have_ := v } : GTallyTally).enc = (([] : List Value) ++ (x.c.enc)) ++ ([(.map v)] ++ ([(.map x.count)] ++ ([(.map x.all)] ++ ([(.map x.last)] ++ (([] : List Value)))))) := by simp only [GTallyTally.enc, List.nil_append, List.append_assoc, List.append_nil]
  rw [e1, e2]; exact h
theorem fs336_2 (x : GTallyTally) (v : Option Nat) (rest : List (Nat × Value)) : Instr.fill (fun i => ([(0, 2), (2, 1), (3, 1), (4, 1), (5, 1)] : List (Nat × Nat))[i]?) x.enc.toArray ((2, (.map v)) :: rest) = Instr.fill (fun i => ([(0, 2), (2, 1), (3, 1), (4, 1), (5, 1)] : List (Nat × Nat))[i]?) ({ x with count := v } : GTallyTally).enc.toArray rest := by
  have h := fill_seg [(0, 2), (2, 1), (3, 1), (4, 1), (5, 1)] 2 3 1 rfl (([] : List Value) ++ (x.c.enc ++ ([(.map x.have_)]))) ([(.map x.count)]) ([(.map x.all)] ++ ([(.map x.last)] ++ (([] : List Value)))) ([(.map v)]) (.map v) rest (rfl) (by simp [GConf.enc_len]) (by simp [GConf.enc_len]) (by simp [GConf.enc_len])
  have e1 : x.enc = (([] : List Value) ++ (x.c.enc ++ ([(.map x.have_)]))) ++ ([(.map x.count)] ++ ([(.map x.all)] ++ ([(.map x.last)] ++ (([] : List Value))))) := by simp only [GTallyTally.enc, List.nil_append, List.append_assoc, List.append_nil]
  have e2 : ({ x with count := v } : GTallyTally).enc = (([] : List Value) ++ (x.c.enc ++ ([(.map x.have_)]))) ++ ([(.map v)] ++ ([(.map x.all)] ++ ([(.map x.last)] ++ (([] : List Value))))) := by simp only [GTallyTally.enc, List.nil_append, List.append_assoc, List.append_nil]
  rw [e1, e2]; exact h
theorem fs336_3 (x : GTallyTally) (v : Option Nat) (rest : List (Nat × Value)) : Instr.fill (fun i => ([(0, 2), (2, 1), (3, 1), (4, 1), (5, 1)] : List (Nat × Nat))[i]?) x.enc.toArray ((3, (.map v)) :: rest) = Instr.fill (fun i => ([(0, 2), (2, 1), (3, 1), (4, 1), (5, 1)] : List (Nat × Nat))[i]?) ({ x with all := v } : GTallyTally).enc.toArray rest := by
  have h := fill_seg [(0, 2), (2, 1), (3, 1), (4, 1), (5, 1)] 3 4 1 rfl (([] : List Value) ++ (x.c.enc ++ ([(.map x.have_)] ++ ([(.map x.count)])))) ([(.map x.all)]) ([(.map x.last)] ++ (([] : List Value))) ([(.map v)]) (.map v) rest (rfl) (by simp [GConf.enc_len]) (by simp [GConf.enc_len]) (by simp [GConf.enc_len])
  have e1 : x.enc = (([] : List Value) ++ (x.c.enc ++ ([(.map x.have_)] ++ ([(.map x.count)])))) ++ ([(.map x.all)] ++ ([(.map x.last)] ++ (([] : List Value)))) := by simp only [GTallyTally.enc, List.nil_append, List.append_assoc, List.append_nil]
  have e2 : ({ x with all := v } : GTallyTally).enc = (([] : List Value) ++ (x.c.enc ++ ([(.map x.have_)] ++ ([(.map x.count)])))) ++ ([(.map v)] ++ ([(.map x.last)] ++ (([] : List Value)))) := by simp only [GTallyTally.enc, List.nil_append, List.append_assoc, List.append_nil]
  rw [e1, e2]; exact h
theorem fs336_4 (x : GTallyTally) (v : Option Nat) (rest : List (Nat × Value)) : Instr.fill (fun i => ([(0, 2), (2, 1), (3, 1), (4, 1), (5, 1)] : List (Nat × Nat))[i]?) x.enc.toArray ((4, (.map v)) :: rest) = Instr.fill (fun i => ([(0, 2), (2, 1), (3, 1), (4, 1), (5, 1)] : List (Nat × Nat))[i]?) ({ x with last := v } : GTallyTally).enc.toArray rest := by
  have h := fill_seg [(0, 2), (2, 1), (3, 1), (4, 1), (5, 1)] 4 5 1 rfl (([] : List Value) ++ (x.c.enc ++ ([(.map x.have_)] ++ ([(.map x.count)] ++ ([(.map x.all)]))))) ([(.map x.last)]) (([] : List Value)) ([(.map v)]) (.map v) rest (rfl) (by simp [GConf.enc_len]) (by simp [GConf.enc_len]) (by simp [GConf.enc_len])
  have e1 : x.enc = (([] : List Value) ++ (x.c.enc ++ ([(.map x.have_)] ++ ([(.map x.count)] ++ ([(.map x.all)]))))) ++ ([(.map x.last)] ++ (([] : List Value))) := by simp only [GTallyTally.enc, List.nil_append, List.append_assoc, List.append_nil]
  have e2 : ({ x with last := v } : GTallyTally).enc = (([] : List Value) ++ (x.c.enc ++ ([(.map x.have_)] ++ ([(.map x.count)] ++ ([(.map x.all)]))))) ++ ([(.map v)] ++ (([] : List Value))) := by simp only [GTallyTally.enc, List.nil_append, List.append_assoc, List.append_nil]
  rw [e1, e2]; exact h
@[go_sem ↓ high] theorem xd_GTallyTally (ρ : Operand → Value) (dst : Option Tmp) (ps : Array (Nat × Operand)) (ty : TypeId) (pos : String) (after : Array Edge) (guard : Option (Nat × Bool)) : execOp ρ { dst, op := .build 336 ps, type := ty, pos, after, guard } = (do pure (.value (← gBuild 336 (ps.map fun (i, x) => (i, ρ x))))) := ex_build ..
@[go_sem ↓ high] theorem bd336_0 (w : World) (v0 : GConf) (v1 : Option Nat) (v2 : Option Nat) (v3 : Option Nat) (v4 : Option Nat) : (gBuild 336 #[(0, (v0.val)), (1, (.map v1)), (2, (.map v2)), (3, (.map v3)), (4, (.map v4))]).run Tryz.prog w = .ok (GTallyTally.val ⟨v0, v1, v2, v3, v4⟩) w := by
  rw [GTallyTally.val_eq]
  refine run_gBuild_of uu336 zr336 pl336 ?_ w
  show Instr.fill _ (GTallyTally.enc default).toArray [(0, (v0.val)), (1, (.map v1)), (2, (.map v2)), (3, (.map v3)), (4, (.map v4))] = _
  rw [fs336_0, fs336_1, fs336_2, fs336_3, fs336_4]; rfl

/-! ### gavel/tally.voter -/
structure GTallyVoter where
  kind : Int
  round : Int
  replica : Int
deriving DecidableEq
instance : Inhabited GTallyVoter := ⟨⟨0, 0, 0⟩⟩
def GTallyVoter.enc (x : GTallyVoter) : List Value := [(.int .i64 x.kind)] ++ ([(.int .i64 x.round)] ++ ([(.int .i64 x.replica)]))
theorem GTallyVoter.enc_len (x : GTallyVoter) : x.enc.length = 3 := by simp [GTallyVoter.enc]
theorem GTallyVoter.enc_one (x : GTallyVoter) : ∀ u ∈ x.enc, u.oneCell' = true := by
  intro u hu
  simp only [GTallyVoter.enc, List.mem_append, List.mem_singleton] at hu
  rcases hu with hu | hu | hu
  · subst hu; rfl
  · subst hu; rfl
  · subst hu; rfl
theorem GTallyVoter.enc_inj (x y : GTallyVoter) (h : x.enc = y.enc) : x = y := by
  obtain ⟨a0, a1, a2⟩ := x
  obtain ⟨b0, b1, b2⟩ := y
  simp only [GTallyVoter.enc] at h
  obtain ⟨p0, q0⟩ := List.append_inj h (rfl)
  have e0 : a0 = b0 := by have := List.head_eq_of_cons_eq p0; injection this
  obtain ⟨p1, q1⟩ := List.append_inj q0 (rfl)
  have e1 : a1 = b1 := by have := List.head_eq_of_cons_eq p1; injection this
  have e2 : a2 = b2 := by have := List.head_eq_of_cons_eq q1; injection this
  rw [e0, e1, e2]
instance : Enc GTallyVoter where
  n := 3
  enc := GTallyVoter.enc
  pos := by omega
  len := GTallyVoter.enc_len
  one := GTallyVoter.enc_one
  inj := GTallyVoter.enc_inj
@[go_sem] theorem GTallyVoter.n_eq : Enc.n GTallyVoter = 3 := rfl
@[irreducible] def GTallyVoter.val (x : GTallyVoter) : Value := .agg x.enc.toArray
theorem GTallyVoter.val_eq (x : GTallyVoter) : GTallyVoter.val x = .agg (Enc.enc x).toArray := by unfold GTallyVoter.val; rfl
section
variable (w : World)
end
/-! ### gavel/tally.turn -/
structure GTallyTurn where
  kind : Int
  round : Int
deriving DecidableEq
instance : Inhabited GTallyTurn := ⟨⟨0, 0⟩⟩
def GTallyTurn.enc (x : GTallyTurn) : List Value := [(.int .i64 x.kind)] ++ ([(.int .i64 x.round)])
theorem GTallyTurn.enc_len (x : GTallyTurn) : x.enc.length = 2 := by simp [GTallyTurn.enc]
theorem GTallyTurn.enc_one (x : GTallyTurn) : ∀ u ∈ x.enc, u.oneCell' = true := by
  intro u hu
  simp only [GTallyTurn.enc, List.mem_append, List.mem_singleton] at hu
  rcases hu with hu | hu
  · subst hu; rfl
  · subst hu; rfl
theorem GTallyTurn.enc_inj (x y : GTallyTurn) (h : x.enc = y.enc) : x = y := by
  obtain ⟨a0, a1⟩ := x
  obtain ⟨b0, b1⟩ := y
  simp only [GTallyTurn.enc] at h
  obtain ⟨p0, q0⟩ := List.append_inj h (rfl)
  have e0 : a0 = b0 := by have := List.head_eq_of_cons_eq p0; injection this
  have e1 : a1 = b1 := by have := List.head_eq_of_cons_eq q0; injection this
  rw [e0, e1]
instance : Enc GTallyTurn where
  n := 2
  enc := GTallyTurn.enc
  pos := by omega
  len := GTallyTurn.enc_len
  one := GTallyTurn.enc_one
  inj := GTallyTurn.enc_inj
@[go_sem] theorem GTallyTurn.n_eq : Enc.n GTallyTurn = 2 := rfl
@[irreducible] def GTallyTurn.val (x : GTallyTurn) : Value := .agg x.enc.toArray
theorem GTallyTurn.val_eq (x : GTallyTurn) : GTallyTurn.val x = .agg (Enc.enc x).toArray := by unfold GTallyTurn.val; rfl
theorem GTallyTurn.ext_all (x y : GTallyTurn) : x = y ↔ x.kind = y.kind ∧ x.round = y.round := by
  constructor
  · intro h; cases h; simp
  · intro h; cases x; cases y; simp_all
theorem uu345 : Tryz.prog.underlying 345 = some (.struct (Tryz.prog.fieldsOf 345)) := by kernel_rfl
theorem st345 : Tryz.prog.stoodInHeld 345 = false := by kernel_rfl
theorem fl345 : fieldTO Tryz.prog 345 = [(3, 0), (3, 1)] := by kernel_rfl
theorem nb345 : noBlank Tryz.prog 345 = true := by kernel_rfl
section
variable (w : World)
end
theorem lk345_0 (x : GTallyTurn) : x.enc[0]? = some (.int .i64 x.kind) := by
  simp [GTallyTurn.enc, List.getElem?_append]
theorem pt345_0 (w : World) (x : GTallyTurn) : (part 3 x.enc.toArray 0).run Tryz.prog w = .ok (.int .i64 x.kind) w := run_part_one na3 us3 (lk345_0 x)
theorem lk345_1 (x : GTallyTurn) : x.enc[1]? = some (.int .i64 x.round) := by
  simp [GTallyTurn.enc, List.getElem?_append]
theorem pt345_1 (w : World) (x : GTallyTurn) : (part 3 x.enc.toArray 1).run Tryz.prog w = .ok (.int .i64 x.round) w := run_part_one na3 us3 (lk345_1 x)
theorem zr345 : zeroT Tryz.prog 345 = some (.agg (GTallyTurn.enc default).toArray) := by kernel_rfl
theorem pl345 : ((Tryz.prog.fieldsOf 345).toList.mapM fun f => (Tryz.prog.info? f.type).map fun i => (f.offset, i.size)) = some [(0, 1), (1, 1)] := by kernel_rfl
theorem fs345_0 (x : GTallyTurn) (v : Int) (rest : List (Nat × Value)) : Instr.fill (fun i => ([(0, 1), (1, 1)] : List (Nat × Nat))[i]?) x.enc.toArray ((0, (.int .i64 v)) :: rest) = Instr.fill (fun i => ([(0, 1), (1, 1)] : List (Nat × Nat))[i]?) ({ x with kind := v } : GTallyTurn).enc.toArray rest := by
  have h := fill_seg [(0, 1), (1, 1)] 0 0 1 rfl (([] : List Value)) ([(.int .i64 x.kind)]) ([(.int .i64 x.round)] ++ (([] : List Value))) ([(.int .i64 v)]) (.int .i64 v) rest (rfl) (by simp) (by simp) (by simp)
  have e1 : x.enc = (([] : List Value)) ++ ([(.int .i64 x.kind)] ++ ([(.int .i64 x.round)] ++ (([] : List Value)))) := by simp only [GTallyTurn.enc, List.nil_append, List.append_assoc, List.append_nil]
  have e2 : ({ x with kind := v } : GTallyTurn).enc = (([] : List Value)) ++ ([(.int .i64 v)] ++ ([(.int .i64 x.round)] ++ (([] : List Value)))) := by simp only [GTallyTurn.enc, List.nil_append, List.append_assoc, List.append_nil]
  rw [e1, e2]; exact h
theorem fs345_1 (x : GTallyTurn) (v : Int) (rest : List (Nat × Value)) : Instr.fill (fun i => ([(0, 1), (1, 1)] : List (Nat × Nat))[i]?) x.enc.toArray ((1, (.int .i64 v)) :: rest) = Instr.fill (fun i => ([(0, 1), (1, 1)] : List (Nat × Nat))[i]?) ({ x with round := v } : GTallyTurn).enc.toArray rest := by
  have h := fill_seg [(0, 1), (1, 1)] 1 1 1 rfl (([] : List Value) ++ ([(.int .i64 x.kind)])) ([(.int .i64 x.round)]) (([] : List Value)) ([(.int .i64 v)]) (.int .i64 v) rest (rfl) (by simp) (by simp) (by simp)
  have e1 : x.enc = (([] : List Value) ++ ([(.int .i64 x.kind)])) ++ ([(.int .i64 x.round)] ++ (([] : List Value))) := by simp only [GTallyTurn.enc, List.nil_append, List.append_assoc, List.append_nil]
  have e2 : ({ x with round := v } : GTallyTurn).enc = (([] : List Value) ++ ([(.int .i64 x.kind)])) ++ ([(.int .i64 v)] ++ (([] : List Value))) := by simp only [GTallyTurn.enc, List.nil_append, List.append_assoc, List.append_nil]
  rw [e1, e2]; exact h
@[go_sem ↓ high] theorem xd_GTallyTurn (ρ : Operand → Value) (dst : Option Tmp) (ps : Array (Nat × Operand)) (ty : TypeId) (pos : String) (after : Array Edge) (guard : Option (Nat × Bool)) : execOp ρ { dst, op := .build 345 ps, type := ty, pos, after, guard } = (do pure (.value (← gBuild 345 (ps.map fun (i, x) => (i, ρ x))))) := ex_build ..
@[go_sem ↓ high] theorem bd345_0 (w : World) (v0 : Int) (v1 : Int) : (gBuild 345 #[(0, (.int .i64 v0)), (1, (.int .i64 v1))]).run Tryz.prog w = .ok (GTallyTurn.val ⟨v0, v1⟩) w := by
  rw [GTallyTurn.val_eq]
  refine run_gBuild_of uu345 zr345 pl345 ?_ w
  show Instr.fill _ (GTallyTurn.enc default).toArray [(0, (.int .i64 v0)), (1, (.int .i64 v1))] = _
  rw [fs345_0, fs345_1]; rfl
theorem eq_GTallyTurn (w : World) (d : Nat) (x y : GTallyTurn) : (Op.equalIn (d + 2) 345 (GTallyTurn.val x) (GTallyTurn.val y)).run Tryz.prog w = .ok (decide (x = y)) w := by
  have q0 : ∀ a b, (Op.equalIn (d + 1) 3 (.int .i64 a) (.int .i64 b)).run Tryz.prog w = .ok (decide (a = b)) w := fun a b => by rw [run_equalIn_int w (d + 0) 3 .i64 .i64 a b uk3]; congr 1
  have q1 : ∀ a b, (Op.equalIn (d + 1) 3 (.int .i64 a) (.int .i64 b)).run Tryz.prog w = .ok (decide (a = b)) w := fun a b => by rw [run_equalIn_int w (d + 0) 3 .i64 .i64 a b uk3]; congr 1
  have h := run_equalIn_fields (d + 1) x.enc.toArray y.enc.toArray w uu345 st345 nb345
  rw [fl345] at h
  unfold GTallyTurn.val
  refine h.trans ?_
  clear h
  simp only [eqFs, Sem.run_bind, pt345_0, pt345_1, q0, q1, Result.andThen_ok, Sem.run_ite, Sem.run_pure]
  have he : decide (x = y) = (decide (x.kind = y.kind) && (decide (x.round = y.round))) := by
    rw [Bool.eq_iff_iff]; simp only [Bool.and_eq_true, decide_eq_true_eq]; exact GTallyTurn.ext_all x y
  rw [he]
  generalize decide (x.kind = y.kind) = c0; generalize decide (x.round = y.round) = c1
  cases c0 <;> cases c1 <;> simp
/-! ### gavel/core.State -/
structure GCoreState where
  round : Int
  step : Int
  lockedRound : Int
  validRound : Int
  locked : GHash
  valid : GHash
  decided : Bool
  decision : GHash
deriving DecidableEq
instance : Inhabited GCoreState := ⟨⟨0, 0, 0, 0, default, default, false, default⟩⟩
def GCoreState.enc (x : GCoreState) : List Value := [(.int .i64 x.round)] ++ ([(.int .i64 x.step)] ++ ([(.int .i64 x.lockedRound)] ++ ([(.int .i64 x.validRound)] ++ (x.locked.enc ++ (x.valid.enc ++ ([(.bool x.decided)] ++ (x.decision.enc)))))))
theorem GCoreState.enc_len (x : GCoreState) : x.enc.length = 101 := by simp [GCoreState.enc, GHash.enc_len]
theorem GCoreState.enc_one (x : GCoreState) : ∀ u ∈ x.enc, u.oneCell' = true := by
  intro u hu
  simp only [GCoreState.enc, List.mem_append, List.mem_singleton] at hu
  rcases hu with hu | hu | hu | hu | hu | hu | hu | hu
  · subst hu; rfl
  · subst hu; rfl
  · subst hu; rfl
  · subst hu; rfl
  · exact Enc.one (α := GHash) _ _ hu
  · exact Enc.one (α := GHash) _ _ hu
  · subst hu; rfl
  · exact Enc.one (α := GHash) _ _ hu
theorem GCoreState.enc_inj (x y : GCoreState) (h : x.enc = y.enc) : x = y := by
  obtain ⟨a0, a1, a2, a3, a4, a5, a6, a7⟩ := x
  obtain ⟨b0, b1, b2, b3, b4, b5, b6, b7⟩ := y
  simp only [GCoreState.enc] at h
  obtain ⟨p0, q0⟩ := List.append_inj h (rfl)
  have e0 : a0 = b0 := by have := List.head_eq_of_cons_eq p0; injection this
  obtain ⟨p1, q1⟩ := List.append_inj q0 (rfl)
  have e1 : a1 = b1 := by have := List.head_eq_of_cons_eq p1; injection this
  obtain ⟨p2, q2⟩ := List.append_inj q1 (rfl)
  have e2 : a2 = b2 := by have := List.head_eq_of_cons_eq p2; injection this
  obtain ⟨p3, q3⟩ := List.append_inj q2 (rfl)
  have e3 : a3 = b3 := by have := List.head_eq_of_cons_eq p3; injection this
  obtain ⟨p4, q4⟩ := List.append_inj q3 (by simp [GHash.enc_len])
  have e4 := Enc.inj (α := GHash) _ _ p4
  obtain ⟨p5, q5⟩ := List.append_inj q4 (by simp [GHash.enc_len])
  have e5 := Enc.inj (α := GHash) _ _ p5
  obtain ⟨p6, q6⟩ := List.append_inj q5 (rfl)
  have e6 : a6 = b6 := by have := List.head_eq_of_cons_eq p6; injection this
  have e7 := Enc.inj (α := GHash) _ _ q6
  rw [e0, e1, e2, e3, e4, e5, e6, e7]
instance : Enc GCoreState where
  n := 101
  enc := GCoreState.enc
  pos := by omega
  len := GCoreState.enc_len
  one := GCoreState.enc_one
  inj := GCoreState.enc_inj
@[go_sem] theorem GCoreState.n_eq : Enc.n GCoreState = 101 := rfl
@[irreducible] def GCoreState.val (x : GCoreState) : Value := .agg x.enc.toArray
theorem GCoreState.val_eq (x : GCoreState) : GCoreState.val x = .agg (Enc.enc x).toArray := by unfold GCoreState.val; rfl
theorem uu197 : Tryz.prog.underlying 197 = some (.struct (Tryz.prog.fieldsOf 197)) := by kernel_rfl
section
variable (w : World)
end
theorem lk197_0 (x : GCoreState) : x.enc[0]? = some (.int .i64 x.round) := by
  simp [GCoreState.enc, List.getElem?_append]
theorem lk197_1 (x : GCoreState) : x.enc[1]? = some (.int .i64 x.step) := by
  simp [GCoreState.enc, List.getElem?_append]
theorem lk197_3 (x : GCoreState) : x.enc[3]? = some (.int .i64 x.validRound) := by
  simp [GCoreState.enc, List.getElem?_append]
theorem ds197_5 (x : GCoreState) : (x.enc.drop 36).take 32 = x.valid.enc := by
  unfold GCoreState.enc
  simp [List.drop_append, List.drop_eq_nil_of_le, GHash.enc_len] <;> (rw [List.take_append_of_le_length (by simp [GHash.enc_len])]; exact List.take_of_length_le (by simp [GHash.enc_len]))
theorem lk197_6 (x : GCoreState) : x.enc[68]? = some (.bool x.decided) := by
  simp [GCoreState.enc, List.getElem?_append, GHash.enc_len]
theorem zr197 : zeroT Tryz.prog 197 = some (.agg (GCoreState.enc default).toArray) := by kernel_rfl
theorem GCoreState.at_round {w : World} {a : Addr} {x : GCoreState} (h : get? GCoreState w a = some x) : w.cell? (a.add 0) = some (.int .i64 x.round) := (get?_iff.1 h) _ _ (lk197_0 x)
theorem GCoreState.at_step {w : World} {a : Addr} {x : GCoreState} (h : get? GCoreState w a = some x) : w.cell? (a.add 1) = some (.int .i64 x.step) := (get?_iff.1 h) _ _ (lk197_1 x)
theorem GCoreState.at_validRound {w : World} {a : Addr} {x : GCoreState} (h : get? GCoreState w a = some x) : w.cell? (a.add 3) = some (.int .i64 x.validRound) := (get?_iff.1 h) _ _ (lk197_3 x)
theorem GCoreState.at_valid {w : World} {a : Addr} {x : GCoreState} (h : get? GCoreState w a = some x) : get? GHash w (a.add 36) = some x.valid := by
  rw [get?_iff] at h ⊢
  refine h.sub 36 fun j v hv => ?_
  have hd := ds197_5 x
  have hj : j < 32 := by have := (List.getElem?_eq_some_iff.1 hv).1; rwa [Enc.len] at this
  show x.enc[36 + j]? = some v
  rw [← List.getElem?_drop, ← List.getElem?_take_of_lt hj, hd]; exact hv
theorem GCoreState.at_decided {w : World} {a : Addr} {x : GCoreState} (h : get? GCoreState w a = some x) : w.cell? (a.add 68) = some (.bool x.decided) := (get?_iff.1 h) _ _ (lk197_6 x)
theorem pl197 : ((Tryz.prog.fieldsOf 197).toList.mapM fun f => (Tryz.prog.info? f.type).map fun i => (f.offset, i.size)) = some [(0, 1), (1, 1), (2, 1), (3, 1), (4, 32), (36, 32), (68, 1), (69, 32)] := by kernel_rfl
theorem fs197_2 (x : GCoreState) (v : Int) (rest : List (Nat × Value)) : Instr.fill (fun i => ([(0, 1), (1, 1), (2, 1), (3, 1), (4, 32), (36, 32), (68, 1), (69, 32)] : List (Nat × Nat))[i]?) x.enc.toArray ((2, (.int .i64 v)) :: rest) = Instr.fill (fun i => ([(0, 1), (1, 1), (2, 1), (3, 1), (4, 32), (36, 32), (68, 1), (69, 32)] : List (Nat × Nat))[i]?) ({ x with lockedRound := v } : GCoreState).enc.toArray rest := by
  have h := fill_seg [(0, 1), (1, 1), (2, 1), (3, 1), (4, 32), (36, 32), (68, 1), (69, 32)] 2 2 1 rfl (([] : List Value) ++ ([(.int .i64 x.round)] ++ ([(.int .i64 x.step)]))) ([(.int .i64 x.lockedRound)]) ([(.int .i64 x.validRound)] ++ (x.locked.enc ++ (x.valid.enc ++ ([(.bool x.decided)] ++ (x.decision.enc ++ (([] : List Value))))))) ([(.int .i64 v)]) (.int .i64 v) rest (rfl) (by simp [GHash.enc_len]) (by simp [GHash.enc_len]) (by simp [GHash.enc_len])
  have e1 : x.enc = (([] : List Value) ++ ([(.int .i64 x.round)] ++ ([(.int .i64 x.step)]))) ++ ([(.int .i64 x.lockedRound)] ++ ([(.int .i64 x.validRound)] ++ (x.locked.enc ++ (x.valid.enc ++ ([(.bool x.decided)] ++ (x.decision.enc ++ (([] : List Value)))))))) := by simp only [GCoreState.enc, List.nil_append, List.append_assoc, List.append_nil]
  have e2 : ({ x with lockedRound := v } : GCoreState).enc = (([] : List Value) ++ ([(.int .i64 x.round)] ++ ([(.int .i64 x.step)]))) ++ ([(.int .i64 v)] ++ ([(.int .i64 x.validRound)] ++ (x.locked.enc ++ (x.valid.enc ++ ([(.bool x.decided)] ++ (x.decision.enc ++ (([] : List Value)))))))) := by simp only [GCoreState.enc, List.nil_append, List.append_assoc, List.append_nil]
  rw [e1, e2]; exact h
theorem fs197_3 (x : GCoreState) (v : Int) (rest : List (Nat × Value)) : Instr.fill (fun i => ([(0, 1), (1, 1), (2, 1), (3, 1), (4, 32), (36, 32), (68, 1), (69, 32)] : List (Nat × Nat))[i]?) x.enc.toArray ((3, (.int .i64 v)) :: rest) = Instr.fill (fun i => ([(0, 1), (1, 1), (2, 1), (3, 1), (4, 32), (36, 32), (68, 1), (69, 32)] : List (Nat × Nat))[i]?) ({ x with validRound := v } : GCoreState).enc.toArray rest := by
  have h := fill_seg [(0, 1), (1, 1), (2, 1), (3, 1), (4, 32), (36, 32), (68, 1), (69, 32)] 3 3 1 rfl (([] : List Value) ++ ([(.int .i64 x.round)] ++ ([(.int .i64 x.step)] ++ ([(.int .i64 x.lockedRound)])))) ([(.int .i64 x.validRound)]) (x.locked.enc ++ (x.valid.enc ++ ([(.bool x.decided)] ++ (x.decision.enc ++ (([] : List Value)))))) ([(.int .i64 v)]) (.int .i64 v) rest (rfl) (by simp [GHash.enc_len]) (by simp [GHash.enc_len]) (by simp [GHash.enc_len])
  have e1 : x.enc = (([] : List Value) ++ ([(.int .i64 x.round)] ++ ([(.int .i64 x.step)] ++ ([(.int .i64 x.lockedRound)])))) ++ ([(.int .i64 x.validRound)] ++ (x.locked.enc ++ (x.valid.enc ++ ([(.bool x.decided)] ++ (x.decision.enc ++ (([] : List Value))))))) := by simp only [GCoreState.enc, List.nil_append, List.append_assoc, List.append_nil]
  have e2 : ({ x with validRound := v } : GCoreState).enc = (([] : List Value) ++ ([(.int .i64 x.round)] ++ ([(.int .i64 x.step)] ++ ([(.int .i64 x.lockedRound)])))) ++ ([(.int .i64 v)] ++ (x.locked.enc ++ (x.valid.enc ++ ([(.bool x.decided)] ++ (x.decision.enc ++ (([] : List Value))))))) := by simp only [GCoreState.enc, List.nil_append, List.append_assoc, List.append_nil]
  rw [e1, e2]; exact h
@[go_sem ↓ high] theorem xd_GCoreState (ρ : Operand → Value) (dst : Option Tmp) (ps : Array (Nat × Operand)) (ty : TypeId) (pos : String) (after : Array Edge) (guard : Option (Nat × Bool)) : execOp ρ { dst, op := .build 197 ps, type := ty, pos, after, guard } = (do pure (.value (← gBuild 197 (ps.map fun (i, x) => (i, ρ x))))) := ex_build ..
@[go_sem ↓ high] theorem bd197_0 (w : World) (v2 : Int) (v3 : Int) : (gBuild 197 #[(2, (.int .i64 v2)), (3, (.int .i64 v3))]).run Tryz.prog w = .ok (GCoreState.val ⟨0, 0, v2, v3, default, default, false, default⟩) w := by
  rw [GCoreState.val_eq]
  refine run_gBuild_of uu197 zr197 pl197 ?_ w
  show Instr.fill _ (GCoreState.enc default).toArray [(2, (.int .i64 v2)), (3, (.int .i64 v3))] = _
  rw [fs197_2, fs197_3]; rfl
/-! ### gavel/core.Core -/
structure GCoreCore where
  c : GConf
  epoch : Int
  replica : Int
  s : GCoreState
  t : Option Addr
  proposals : Option Nat
  wasValid : Bool
  setPrevote : Bool
  setPrecommit : Bool
deriving DecidableEq
instance : Inhabited GCoreCore := ⟨⟨default, 0, 0, default, none, none, false, false, false⟩⟩
def GCoreCore.enc (x : GCoreCore) : List Value := x.c.enc ++ ([(.int .i64 x.epoch)] ++ ([(.int .i64 x.replica)] ++ (x.s.enc ++ ([(.pointer x.t)] ++ ([(.map x.proposals)] ++ ([(.bool x.wasValid)] ++ ([(.bool x.setPrevote)] ++ ([(.bool x.setPrecommit)]))))))))
theorem GCoreCore.enc_len (x : GCoreCore) : x.enc.length = 110 := by simp [GCoreCore.enc, GConf.enc_len, GCoreState.enc_len]
theorem GCoreCore.enc_one (x : GCoreCore) : ∀ u ∈ x.enc, u.oneCell' = true := by
  intro u hu
  simp only [GCoreCore.enc, List.mem_append, List.mem_singleton] at hu
  rcases hu with hu | hu | hu | hu | hu | hu | hu | hu | hu
  · exact Enc.one (α := GConf) _ _ hu
  · subst hu; rfl
  · subst hu; rfl
  · exact Enc.one (α := GCoreState) _ _ hu
  · subst hu; rfl
  · subst hu; rfl
  · subst hu; rfl
  · subst hu; rfl
  · subst hu; rfl
theorem GCoreCore.enc_inj (x y : GCoreCore) (h : x.enc = y.enc) : x = y := by
  obtain ⟨a0, a1, a2, a3, a4, a5, a6, a7, a8⟩ := x
  obtain ⟨b0, b1, b2, b3, b4, b5, b6, b7, b8⟩ := y
  simp only [GCoreCore.enc] at h
  obtain ⟨p0, q0⟩ := List.append_inj h (by simp [GConf.enc_len])
  have e0 := Enc.inj (α := GConf) _ _ p0
  obtain ⟨p1, q1⟩ := List.append_inj q0 (rfl)
  have e1 : a1 = b1 := by have := List.head_eq_of_cons_eq p1; injection this
  obtain ⟨p2, q2⟩ := List.append_inj q1 (rfl)
  have e2 : a2 = b2 := by have := List.head_eq_of_cons_eq p2; injection this
  obtain ⟨p3, q3⟩ := List.append_inj q2 (by simp [GCoreState.enc_len])
  have e3 := Enc.inj (α := GCoreState) _ _ p3
  obtain ⟨p4, q4⟩ := List.append_inj q3 (rfl)
  have e4 : a4 = b4 := by have := List.head_eq_of_cons_eq p4; injection this
  obtain ⟨p5, q5⟩ := List.append_inj q4 (rfl)
  have e5 : a5 = b5 := by have := List.head_eq_of_cons_eq p5; injection this
  obtain ⟨p6, q6⟩ := List.append_inj q5 (rfl)
  have e6 : a6 = b6 := by have := List.head_eq_of_cons_eq p6; injection this
  obtain ⟨p7, q7⟩ := List.append_inj q6 (rfl)
  have e7 : a7 = b7 := by have := List.head_eq_of_cons_eq p7; injection this
  have e8 : a8 = b8 := by have := List.head_eq_of_cons_eq q7; injection this
  rw [e0, e1, e2, e3, e4, e5, e6, e7, e8]
instance : Enc GCoreCore where
  n := 110
  enc := GCoreCore.enc
  pos := by omega
  len := GCoreCore.enc_len
  one := GCoreCore.enc_one
  inj := GCoreCore.enc_inj
@[go_sem] theorem GCoreCore.n_eq : Enc.n GCoreCore = 110 := rfl
@[irreducible] def GCoreCore.val (x : GCoreCore) : Value := .agg x.enc.toArray
theorem GCoreCore.val_eq (x : GCoreCore) : GCoreCore.val x = .agg (Enc.enc x).toArray := by unfold GCoreCore.val; rfl
theorem uu201 : Tryz.prog.underlying 201 = some (.struct (Tryz.prog.fieldsOf 201)) := by kernel_rfl
@[go_sem ↓ high] theorem xb_GCoreCore (ρ : Operand → Value) (dst : Option Tmp) (x : Operand) (ty : TypeId) (pos : String) (after : Array Edge) (guard : Option (Nat × Bool)) : execOp ρ { dst, op := .box 201 x, type := ty, pos, after, guard } = (do pure (.value (← gBox 201 (ρ x)))) := ex_box ..
section
variable (w : World)
@[go_sem ↓ high] theorem bx_GCoreCore (x : GCoreCore) : (gBox 201 (GCoreCore.val x)).run Tryz.prog w = .ok (.pointer (some ⟨w.heap.size, 0, none⟩)) (w.alloc (.cells (GCoreCore.enc x).toArray 201)) := by
  rw [GCoreCore.val_eq]; exact run_gBox _ w
end
theorem ds201_0 (x : GCoreCore) : (x.enc.drop 0).take 2 = x.c.enc := by
  unfold GCoreCore.enc
  simp only [List.drop_zero] <;> (rw [List.take_append_of_le_length (by simp [GConf.enc_len])]; exact List.take_of_length_le (by simp [GConf.enc_len]))
theorem lk201_1 (x : GCoreCore) : x.enc[2]? = some (.int .i64 x.epoch) := by
  simp [GCoreCore.enc, List.getElem?_append, GConf.enc_len]
theorem lk201_2 (x : GCoreCore) : x.enc[3]? = some (.int .i64 x.replica) := by
  simp [GCoreCore.enc, List.getElem?_append, GConf.enc_len]
theorem ds201_3 (x : GCoreCore) : (x.enc.drop 4).take 101 = x.s.enc := by
  unfold GCoreCore.enc
  simp [List.drop_append, List.drop_eq_nil_of_le, GConf.enc_len] <;> (rw [List.take_append_of_le_length (by simp [GCoreState.enc_len])]; exact List.take_of_length_le (by simp [GCoreState.enc_len]))
theorem lk201_4 (x : GCoreCore) : x.enc[105]? = some (.pointer x.t) := by
  simp [GCoreCore.enc, List.getElem?_append, GConf.enc_len, GCoreState.enc_len]
theorem lk201_5 (x : GCoreCore) : x.enc[106]? = some (.map x.proposals) := by
  simp [GCoreCore.enc, List.getElem?_append, GConf.enc_len, GCoreState.enc_len]
theorem lk201_6 (x : GCoreCore) : x.enc[107]? = some (.bool x.wasValid) := by
  simp [GCoreCore.enc, List.getElem?_append, GConf.enc_len, GCoreState.enc_len]
theorem lk201_7 (x : GCoreCore) : x.enc[108]? = some (.bool x.setPrevote) := by
  simp [GCoreCore.enc, List.getElem?_append, GConf.enc_len, GCoreState.enc_len]
theorem lk201_8 (x : GCoreCore) : x.enc[109]? = some (.bool x.setPrecommit) := by
  simp [GCoreCore.enc, List.getElem?_append, GConf.enc_len, GCoreState.enc_len]
theorem zr201 : zeroT Tryz.prog 201 = some (.agg (GCoreCore.enc default).toArray) := by kernel_rfl
theorem GCoreCore.at_c {w : World} {a : Addr} {x : GCoreCore} (h : get? GCoreCore w a = some x) : get? GConf w (a.add 0) = some x.c := by
  rw [get?_iff] at h ⊢
  refine h.sub 0 fun j v hv => ?_
  have hd := ds201_0 x
  have hj : j < 2 := by have := (List.getElem?_eq_some_iff.1 hv).1; rwa [Enc.len] at this
  show x.enc[0 + j]? = some v
  rw [← List.getElem?_drop, ← List.getElem?_take_of_lt hj, hd]; exact hv
theorem GCoreCore.at_epoch {w : World} {a : Addr} {x : GCoreCore} (h : get? GCoreCore w a = some x) : w.cell? (a.add 2) = some (.int .i64 x.epoch) := (get?_iff.1 h) _ _ (lk201_1 x)
theorem GCoreCore.at_replica {w : World} {a : Addr} {x : GCoreCore} (h : get? GCoreCore w a = some x) : w.cell? (a.add 3) = some (.int .i64 x.replica) := (get?_iff.1 h) _ _ (lk201_2 x)
theorem GCoreCore.at_s {w : World} {a : Addr} {x : GCoreCore} (h : get? GCoreCore w a = some x) : get? GCoreState w (a.add 4) = some x.s := by
  rw [get?_iff] at h ⊢
  refine h.sub 4 fun j v hv => ?_
  have hd := ds201_3 x
  have hj : j < 101 := by have := (List.getElem?_eq_some_iff.1 hv).1; rwa [Enc.len] at this
  show x.enc[4 + j]? = some v
  rw [← List.getElem?_drop, ← List.getElem?_take_of_lt hj, hd]; exact hv
theorem GCoreCore.at_t {w : World} {a : Addr} {x : GCoreCore} (h : get? GCoreCore w a = some x) : w.cell? (a.add 105) = some (.pointer x.t) := (get?_iff.1 h) _ _ (lk201_4 x)
theorem GCoreCore.at_proposals {w : World} {a : Addr} {x : GCoreCore} (h : get? GCoreCore w a = some x) : w.cell? (a.add 106) = some (.map x.proposals) := (get?_iff.1 h) _ _ (lk201_5 x)
theorem GCoreCore.at_wasValid {w : World} {a : Addr} {x : GCoreCore} (h : get? GCoreCore w a = some x) : w.cell? (a.add 107) = some (.bool x.wasValid) := (get?_iff.1 h) _ _ (lk201_6 x)
theorem GCoreCore.at_setPrevote {w : World} {a : Addr} {x : GCoreCore} (h : get? GCoreCore w a = some x) : w.cell? (a.add 108) = some (.bool x.setPrevote) := (get?_iff.1 h) _ _ (lk201_7 x)
theorem GCoreCore.at_setPrecommit {w : World} {a : Addr} {x : GCoreCore} (h : get? GCoreCore w a = some x) : w.cell? (a.add 109) = some (.bool x.setPrecommit) := (get?_iff.1 h) _ _ (lk201_8 x)
@[go_sem] theorem nw201 (w : World) (n : Nat) (x : GCoreCore) (hn : n = w.heap.size) : get? GCoreCore (w.alloc (.cells (GCoreCore.enc x).toArray 201)) ⟨n, 0, none⟩ = some x := by
  subst hn; exact get?_new 201 x
theorem pl201 : ((Tryz.prog.fieldsOf 201).toList.mapM fun f => (Tryz.prog.info? f.type).map fun i => (f.offset, i.size)) = some [(0, 2), (2, 1), (3, 1), (4, 101), (105, 1), (106, 1), (107, 1), (108, 1), (109, 1)] := by kernel_rfl
theorem fs201_0 (x : GCoreCore) (v : GConf) (rest : List (Nat × Value)) : Instr.fill (fun i => ([(0, 2), (2, 1), (3, 1), (4, 101), (105, 1), (106, 1), (107, 1), (108, 1), (109, 1)] : List (Nat × Nat))[i]?) x.enc.toArray ((0, (v.val)) :: rest) = Instr.fill (fun i => ([(0, 2), (2, 1), (3, 1), (4, 101), (105, 1), (106, 1), (107, 1), (108, 1), (109, 1)] : List (Nat × Nat))[i]?) ({ x with c := v } : GCoreCore).enc.toArray rest := by
  have h := fill_seg [(0, 2), (2, 1), (3, 1), (4, 101), (105, 1), (106, 1), (107, 1), (108, 1), (109, 1)] 0 0 2 rfl (([] : List Value)) (x.c.enc) ([(.int .i64 x.epoch)] ++ ([(.int .i64 x.replica)] ++ (x.s.enc ++ ([(.pointer x.t)] ++ ([(.map x.proposals)] ++ ([(.bool x.wasValid)] ++ ([(.bool x.setPrevote)] ++ ([(.bool x.setPrecommit)] ++ (([] : List Value)))))))))) (v.enc) (v.val) rest (by rw [GConf.val_eq]; rfl) (by simp [GConf.enc_len, GCoreState.enc_len]) (by simp [GConf.enc_len, GCoreState.enc_len]) (by simp [GConf.enc_len, GCoreState.enc_len])
  have e1 : x.enc = (([] : List Value)) ++ (x.c.enc ++ ([(.int .i64 x.epoch)] ++ ([(.int .i64 x.replica)] ++ (x.s.enc ++ ([(.pointer x.t)] ++ ([(.map x.proposals)] ++ ([(.bool x.wasValid)] ++ ([(.bool x.setPrevote)] ++ ([(.bool x.setPrecommit)] ++ (([] : List Value))))))))))) := by simp only [GCoreCore.enc, List.nil_append, List.append_assoc, List.append_nil]
  have e2 : ({ x with c := v } : GCoreCore).enc = (([] : List Value)) ++ (v.enc ++ ([(.int .i64 x.epoch)] ++ ([(.int .i64 x.replica)] ++ (x.s.enc ++ ([(.pointer x.t)] ++ ([(.map x.proposals)] ++ ([(.bool x.wasValid)] ++ ([(.bool x.setPrevote)] ++ ([(.bool x.setPrecommit)] ++ (([] : List Value))))))))))) := by simp only [GCoreCore.enc, List.nil_append, List.append_assoc, List.append_nil]
  rw [e1, e2]; exact h
theorem fs201_1 (x : GCoreCore) (v : Int) (rest : List (Nat × Value)) : Instr.fill (fun i => ([(0, 2), (2, 1), (3, 1), (4, 101), (105, 1), (106, 1), (107, 1), (108, 1), (109, 1)] : List (Nat × Nat))[i]?) x.enc.toArray ((1, (.int .i64 v)) :: rest) = Instr.fill (fun i => ([(0, 2), (2, 1), (3, 1), (4, 101), (105, 1), (106, 1), (107, 1), (108, 1), (109, 1)] : List (Nat × Nat))[i]?) ({ x with epoch := v } : GCoreCore).enc.toArray rest := by
  have h := fill_seg [(0, 2), (2, 1), (3, 1), (4, 101), (105, 1), (106, 1), (107, 1), (108, 1), (109, 1)] 1 2 1 rfl (([] : List Value) ++ (x.c.enc)) ([(.int .i64 x.epoch)]) ([(.int .i64 x.replica)] ++ (x.s.enc ++ ([(.pointer x.t)] ++ ([(.map x.proposals)] ++ ([(.bool x.wasValid)] ++ ([(.bool x.setPrevote)] ++ ([(.bool x.setPrecommit)] ++ (([] : List Value))))))))) ([(.int .i64 v)]) (.int .i64 v) rest (rfl) (by simp [GConf.enc_len, GCoreState.enc_len]) (by simp [GConf.enc_len, GCoreState.enc_len]) (by simp [GConf.enc_len, GCoreState.enc_len])
  have e1 : x.enc = (([] : List Value) ++ (x.c.enc)) ++ ([(.int .i64 x.epoch)] ++ ([(.int .i64 x.replica)] ++ (x.s.enc ++ ([(.pointer x.t)] ++ ([(.map x.proposals)] ++ ([(.bool x.wasValid)] ++ ([(.bool x.setPrevote)] ++ ([(.bool x.setPrecommit)] ++ (([] : List Value)))))))))) := by simp only [GCoreCore.enc, List.nil_append, List.append_assoc, List.append_nil]
  have e2 : ({ x with epoch := v } : GCoreCore).enc = (([] : List Value) ++ (x.c.enc)) ++ ([(.int .i64 v)] ++ ([(.int .i64 x.replica)] ++ (x.s.enc ++ ([(.pointer x.t)] ++ ([(.map x.proposals)] ++ ([(.bool x.wasValid)] ++ ([(.bool x.setPrevote)] ++ ([(.bool x.setPrecommit)] ++ (([] : List Value)))))))))) := by simp only [GCoreCore.enc, List.nil_append, List.append_assoc, List.append_nil]
  rw [e1, e2]; exact h
theorem fs201_2 (x : GCoreCore) (v : Int) (rest : List (Nat × Value)) : Instr.fill (fun i => ([(0, 2), (2, 1), (3, 1), (4, 101), (105, 1), (106, 1), (107, 1), (108, 1), (109, 1)] : List (Nat × Nat))[i]?) x.enc.toArray ((2, (.int .i64 v)) :: rest) = Instr.fill (fun i => ([(0, 2), (2, 1), (3, 1), (4, 101), (105, 1), (106, 1), (107, 1), (108, 1), (109, 1)] : List (Nat × Nat))[i]?) ({ x with replica := v } : GCoreCore).enc.toArray rest := by
  have h := fill_seg [(0, 2), (2, 1), (3, 1), (4, 101), (105, 1), (106, 1), (107, 1), (108, 1), (109, 1)] 2 3 1 rfl (([] : List Value) ++ (x.c.enc ++ ([(.int .i64 x.epoch)]))) ([(.int .i64 x.replica)]) (x.s.enc ++ ([(.pointer x.t)] ++ ([(.map x.proposals)] ++ ([(.bool x.wasValid)] ++ ([(.bool x.setPrevote)] ++ ([(.bool x.setPrecommit)] ++ (([] : List Value)))))))) ([(.int .i64 v)]) (.int .i64 v) rest (rfl) (by simp [GConf.enc_len, GCoreState.enc_len]) (by simp [GConf.enc_len, GCoreState.enc_len]) (by simp [GConf.enc_len, GCoreState.enc_len])
  have e1 : x.enc = (([] : List Value) ++ (x.c.enc ++ ([(.int .i64 x.epoch)]))) ++ ([(.int .i64 x.replica)] ++ (x.s.enc ++ ([(.pointer x.t)] ++ ([(.map x.proposals)] ++ ([(.bool x.wasValid)] ++ ([(.bool x.setPrevote)] ++ ([(.bool x.setPrecommit)] ++ (([] : List Value))))))))) := by simp only [GCoreCore.enc, List.nil_append, List.append_assoc, List.append_nil]
  have e2 : ({ x with replica := v } : GCoreCore).enc = (([] : List Value) ++ (x.c.enc ++ ([(.int .i64 x.epoch)]))) ++ ([(.int .i64 v)] ++ (x.s.enc ++ ([(.pointer x.t)] ++ ([(.map x.proposals)] ++ ([(.bool x.wasValid)] ++ ([(.bool x.setPrevote)] ++ ([(.bool x.setPrecommit)] ++ (([] : List Value))))))))) := by simp only [GCoreCore.enc, List.nil_append, List.append_assoc, List.append_nil]
  rw [e1, e2]; exact h
theorem fs201_3 (x : GCoreCore) (v : GCoreState) (rest : List (Nat × Value)) : Instr.fill (fun i => ([(0, 2), (2, 1), (3, 1), (4, 101), (105, 1), (106, 1), (107, 1), (108, 1), (109, 1)] : List (Nat × Nat))[i]?) x.enc.toArray ((3, (v.val)) :: rest) = Instr.fill (fun i => ([(0, 2), (2, 1), (3, 1), (4, 101), (105, 1), (106, 1), (107, 1), (108, 1), (109, 1)] : List (Nat × Nat))[i]?) ({ x with s := v } : GCoreCore).enc.toArray rest := by
  have h := fill_seg [(0, 2), (2, 1), (3, 1), (4, 101), (105, 1), (106, 1), (107, 1), (108, 1), (109, 1)] 3 4 101 rfl (([] : List Value) ++ (x.c.enc ++ ([(.int .i64 x.epoch)] ++ ([(.int .i64 x.replica)])))) (x.s.enc) ([(.pointer x.t)] ++ ([(.map x.proposals)] ++ ([(.bool x.wasValid)] ++ ([(.bool x.setPrevote)] ++ ([(.bool x.setPrecommit)] ++ (([] : List Value))))))) (v.enc) (v.val) rest (by rw [GCoreState.val_eq]; rfl) (by simp [GConf.enc_len, GCoreState.enc_len]) (by simp [GConf.enc_len, GCoreState.enc_len]) (by simp [GConf.enc_len, GCoreState.enc_len])
  have e1 : x.enc = (([] : List Value) ++ (x.c.enc ++ ([(.int .i64 x.epoch)] ++ ([(.int .i64 x.replica)])))) ++ (x.s.enc ++ ([(.pointer x.t)] ++ ([(.map x.proposals)] ++ ([(.bool x.wasValid)] ++ ([(.bool x.setPrevote)] ++ ([(.bool x.setPrecommit)] ++ (([] : List Value)))))))) := by simp only [GCoreCore.enc, List.nil_append, List.append_assoc, List.append_nil]
  have e2 : ({ x with s := v } : GCoreCore).enc = (([] : List Value) ++ (x.c.enc ++ ([(.int .i64 x.epoch)] ++ ([(.int .i64 x.replica)])))) ++ (v.enc ++ ([(.pointer x.t)] ++ ([(.map x.proposals)] ++ ([(.bool x.wasValid)] ++ ([(.bool x.setPrevote)] ++ ([(.bool x.setPrecommit)] ++ (([] : List Value)))))))) := by simp only [GCoreCore.enc, List.nil_append, List.append_assoc, List.append_nil]
  rw [e1, e2]; exact h
theorem fs201_4 (x : GCoreCore) (v : Option Addr) (rest : List (Nat × Value)) : Instr.fill (fun i => ([(0, 2), (2, 1), (3, 1), (4, 101), (105, 1), (106, 1), (107, 1), (108, 1), (109, 1)] : List (Nat × Nat))[i]?) x.enc.toArray ((4, (.pointer v)) :: rest) = Instr.fill (fun i => ([(0, 2), (2, 1), (3, 1), (4, 101), (105, 1), (106, 1), (107, 1), (108, 1), (109, 1)] : List (Nat × Nat))[i]?) ({ x with t := v } : GCoreCore).enc.toArray rest := by
  have h := fill_seg [(0, 2), (2, 1), (3, 1), (4, 101), (105, 1), (106, 1), (107, 1), (108, 1), (109, 1)] 4 105 1 rfl (([] : List Value) ++ (x.c.enc ++ ([(.int .i64 x.epoch)] ++ ([(.int .i64 x.replica)] ++ (x.s.enc))))) ([(.pointer x.t)]) ([(.map x.proposals)] ++ ([(.bool x.wasValid)] ++ ([(.bool x.setPrevote)] ++ ([(.bool x.setPrecommit)] ++ (([] : List Value)))))) ([(.pointer v)]) (.pointer v) rest (rfl) (by simp [GConf.enc_len, GCoreState.enc_len]) (by simp [GConf.enc_len, GCoreState.enc_len]) (by simp [GConf.enc_len, GCoreState.enc_len])
  have e1 : x.enc = (([] : List Value) ++ (x.c.enc ++ ([(.int .i64 x.epoch)] ++ ([(.int .i64 x.replica)] ++ (x.s.enc))))) ++ ([(.pointer x.t)] ++ ([(.map x.proposals)] ++ ([(.bool x.wasValid)] ++ ([(.bool x.setPrevote)] ++ ([(.bool x.setPrecommit)] ++ (([] : List Value))))))) := by simp only [GCoreCore.enc, List.nil_append, List.append_assoc, List.append_nil]
  have e2 : ({ x with t := v } : GCoreCore).enc = (([] : List Value) ++ (x.c.enc ++ ([(.int .i64 x.epoch)] ++ ([(.int .i64 x.replica)] ++ (x.s.enc))))) ++ ([(.pointer v)] ++ ([(.map x.proposals)] ++ ([(.bool x.wasValid)] ++ ([(.bool x.setPrevote)] ++ ([(.bool x.setPrecommit)] ++ (([] : List Value))))))) := by simp only [GCoreCore.enc, List.nil_append, List.append_assoc, List.append_nil]
  rw [e1, e2]; exact h
theorem fs201_5 (x : GCoreCore) (v : Option Nat) (rest : List (Nat × Value)) : Instr.fill (fun i => ([(0, 2), (2, 1), (3, 1), (4, 101), (105, 1), (106, 1), (107, 1), (108, 1), (109, 1)] : List (Nat × Nat))[i]?) x.enc.toArray ((5, (.map v)) :: rest) = Instr.fill (fun i => ([(0, 2), (2, 1), (3, 1), (4, 101), (105, 1), (106, 1), (107, 1), (108, 1), (109, 1)] : List (Nat × Nat))[i]?) ({ x with proposals := v } : GCoreCore).enc.toArray rest := by
  have h := fill_seg [(0, 2), (2, 1), (3, 1), (4, 101), (105, 1), (106, 1), (107, 1), (108, 1), (109, 1)] 5 106 1 rfl (([] : List Value) ++ (x.c.enc ++ ([(.int .i64 x.epoch)] ++ ([(.int .i64 x.replica)] ++ (x.s.enc ++ ([(.pointer x.t)])))))) ([(.map x.proposals)]) ([(.bool x.wasValid)] ++ ([(.bool x.setPrevote)] ++ ([(.bool x.setPrecommit)] ++ (([] : List Value))))) ([(.map v)]) (.map v) rest (rfl) (by simp [GConf.enc_len, GCoreState.enc_len]) (by simp [GConf.enc_len, GCoreState.enc_len]) (by simp [GConf.enc_len, GCoreState.enc_len])
  have e1 : x.enc = (([] : List Value) ++ (x.c.enc ++ ([(.int .i64 x.epoch)] ++ ([(.int .i64 x.replica)] ++ (x.s.enc ++ ([(.pointer x.t)])))))) ++ ([(.map x.proposals)] ++ ([(.bool x.wasValid)] ++ ([(.bool x.setPrevote)] ++ ([(.bool x.setPrecommit)] ++ (([] : List Value)))))) := by simp only [GCoreCore.enc, List.nil_append, List.append_assoc, List.append_nil]
  have e2 : ({ x with proposals := v } : GCoreCore).enc = (([] : List Value) ++ (x.c.enc ++ ([(.int .i64 x.epoch)] ++ ([(.int .i64 x.replica)] ++ (x.s.enc ++ ([(.pointer x.t)])))))) ++ ([(.map v)] ++ ([(.bool x.wasValid)] ++ ([(.bool x.setPrevote)] ++ ([(.bool x.setPrecommit)] ++ (([] : List Value)))))) := by simp only [GCoreCore.enc, List.nil_append, List.append_assoc, List.append_nil]
  rw [e1, e2]; exact h
@[go_sem ↓ high] theorem xd_GCoreCore (ρ : Operand → Value) (dst : Option Tmp) (ps : Array (Nat × Operand)) (ty : TypeId) (pos : String) (after : Array Edge) (guard : Option (Nat × Bool)) : execOp ρ { dst, op := .build 201 ps, type := ty, pos, after, guard } = (do pure (.value (← gBuild 201 (ps.map fun (i, x) => (i, ρ x))))) := ex_build ..
@[go_sem ↓ high] theorem bd201_0 (w : World) (v0 : GConf) (v1 : Int) (v2 : Int) (v3 : GCoreState) (v4 : Option Addr) (v5 : Option Nat) : (gBuild 201 #[(0, (v0.val)), (1, (.int .i64 v1)), (2, (.int .i64 v2)), (3, (v3.val)), (4, (.pointer v4)), (5, (.map v5))]).run Tryz.prog w = .ok (GCoreCore.val ⟨v0, v1, v2, v3, v4, v5, false, false, false⟩) w := by
  rw [GCoreCore.val_eq]
  refine run_gBuild_of uu201 zr201 pl201 ?_ w
  show Instr.fill _ (GCoreCore.enc default).toArray [(0, (v0.val)), (1, (.int .i64 v1)), (2, (.int .i64 v2)), (3, (v3.val)), (4, (.pointer v4)), (5, (.map v5))] = _
  rw [fs201_0, fs201_1, fs201_2, fs201_3, fs201_4, fs201_5]; rfl

/-! ### gavel/core.Act -/
structure GCoreAct where
  kind : Int
  round : Int
  valid : Int
  hash : GHash
deriving DecidableEq
instance : Inhabited GCoreAct := ⟨⟨0, 0, 0, default⟩⟩
def GCoreAct.enc (x : GCoreAct) : List Value := [(.int .i64 x.kind)] ++ ([(.int .i64 x.round)] ++ ([(.int .i64 x.valid)] ++ (x.hash.enc)))
theorem GCoreAct.enc_len (x : GCoreAct) : x.enc.length = 35 := by simp [GCoreAct.enc, GHash.enc_len]
theorem GCoreAct.enc_one (x : GCoreAct) : ∀ u ∈ x.enc, u.oneCell' = true := by
  intro u hu
  simp only [GCoreAct.enc, List.mem_append, List.mem_singleton] at hu
  rcases hu with hu | hu | hu | hu
  · subst hu; rfl
  · subst hu; rfl
  · subst hu; rfl
  · exact Enc.one (α := GHash) _ _ hu
theorem GCoreAct.enc_inj (x y : GCoreAct) (h : x.enc = y.enc) : x = y := by
  obtain ⟨a0, a1, a2, a3⟩ := x
  obtain ⟨b0, b1, b2, b3⟩ := y
  simp only [GCoreAct.enc] at h
  obtain ⟨p0, q0⟩ := List.append_inj h (rfl)
  have e0 : a0 = b0 := by have := List.head_eq_of_cons_eq p0; injection this
  obtain ⟨p1, q1⟩ := List.append_inj q0 (rfl)
  have e1 : a1 = b1 := by have := List.head_eq_of_cons_eq p1; injection this
  obtain ⟨p2, q2⟩ := List.append_inj q1 (rfl)
  have e2 : a2 = b2 := by have := List.head_eq_of_cons_eq p2; injection this
  have e3 := Enc.inj (α := GHash) _ _ q2
  rw [e0, e1, e2, e3]
instance : Enc GCoreAct where
  n := 35
  enc := GCoreAct.enc
  pos := by omega
  len := GCoreAct.enc_len
  one := GCoreAct.enc_one
  inj := GCoreAct.enc_inj
@[go_sem] theorem GCoreAct.n_eq : Enc.n GCoreAct = 35 := rfl
@[irreducible] def GCoreAct.val (x : GCoreAct) : Value := .agg x.enc.toArray
theorem GCoreAct.val_eq (x : GCoreAct) : GCoreAct.val x = .agg (Enc.enc x).toArray := by unfold GCoreAct.val; rfl
theorem uu193 : Tryz.prog.underlying 193 = some (.struct (Tryz.prog.fieldsOf 193)) := by kernel_rfl
@[go_sem ↓ high] theorem xl_GCoreAct (ρ : Operand → Value) (dst : Option Tmp) (x : Operand) (ty : TypeId) (pos : String) (after : Array Edge) (guard : Option (Nat × Bool)) : execOp ρ { dst, op := .load 193 x, type := ty, pos, after, guard } = (do pure (.value (← gLoad 193 (ρ x)))) := ex_load ..
@[go_sem ↓ high] theorem xs_GCoreAct (ρ : Operand → Value) (dst : Option Tmp) (x y : Operand) (ty : TypeId) (pos : String) (after : Array Edge) (guard : Option (Nat × Bool)) : execOp ρ { dst, op := .store 193 x y, type := ty, pos, after, guard } = (do gStore 193 (ρ x) (ρ y); pure .skip) := ex_store ..
@[go_sem ↓ high] theorem xb_GCoreAct (ρ : Operand → Value) (dst : Option Tmp) (x : Operand) (ty : TypeId) (pos : String) (after : Array Edge) (guard : Option (Nat × Bool)) : execOp ρ { dst, op := .box 193 x, type := ty, pos, after, guard } = (do pure (.value (← gBox 193 (ρ x)))) := ex_box ..
@[go_sem ↓ high] theorem xa_GCoreAct (ρ : Operand → Value) (dst : Option Tmp) (ty : TypeId) (pos : String) (after : Array Edge) (guard : Option (Nat × Bool)) : execOp ρ { dst, op := .alloc 193, type := ty, pos, after, guard } = (do pure (.value (← gAlloc 193))) := ex_alloc ..
theorem ag193 : aggT Tryz.prog 193 = true := by kernel_rfl
theorem sz193 : sizeT Tryz.prog 193 = 35 := by kernel_rfl
section
variable (w : World)
@[go_sem ↓ high] theorem ld_GCoreAct (a : Addr) : (gLoad 193 (.pointer (some a))).run Tryz.prog w = ofOpt ((get? GCoreAct w a).map GCoreAct.val) w (noLoad Tryz.prog 193 a w) := by
  unfold gLoad; exact run_loadAt_opt ag193 sz193 GCoreAct.val GCoreAct.val_eq
@[go_sem ↓ high] theorem st_GCoreAct (a : Addr) (x : GCoreAct) : (gStore 193 (.pointer (some a)) (GCoreAct.val x)).run Tryz.prog w = okU' ((get? GCoreAct w a).isSome && blkFree w a.block) (World.putCells w a (GCoreAct.enc x)) (noStore Tryz.prog 193 (.pointer (some a)) (GCoreAct.val x) w) := run_gStore_any sz193 GCoreAct.val GCoreAct.val_eq w a x
@[go_sem ↓ high] theorem bx_GCoreAct (x : GCoreAct) : (gBox 193 (GCoreAct.val x)).run Tryz.prog w = .ok (.pointer (some ⟨w.heap.size, 0, none⟩)) (w.alloc (.cells (GCoreAct.enc x).toArray 193)) := by
  rw [GCoreAct.val_eq]; exact run_gBox _ w
end
theorem lk193_0 (x : GCoreAct) : x.enc[0]? = some (.int .i64 x.kind) := by
  simp [GCoreAct.enc, List.getElem?_append]
theorem lk193_1 (x : GCoreAct) : x.enc[1]? = some (.int .i64 x.round) := by
  simp [GCoreAct.enc, List.getElem?_append]
theorem lk193_2 (x : GCoreAct) : x.enc[2]? = some (.int .i64 x.valid) := by
  simp [GCoreAct.enc, List.getElem?_append]
theorem ds193_3 (x : GCoreAct) : (x.enc.drop 3).take 32 = x.hash.enc := by
  unfold GCoreAct.enc
  simp [List.drop_append, List.drop_eq_nil_of_le] <;> (exact List.take_of_length_le (by simp [GHash.enc_len]))
theorem zr193 : zeroT Tryz.prog 193 = some (.agg (GCoreAct.enc default).toArray) := by kernel_rfl
@[go_sem ↓ high] theorem al_GCoreAct (w : World) : (gAlloc 193).run Tryz.prog w = .ok (.pointer (some ⟨w.heap.size, 0, none⟩)) (w.alloc (.cells (GCoreAct.enc default).toArray 193)) := run_zero_alloc zr193 w
@[go_sem] theorem pc_GCoreAct (w : World) (n : Nat) (x z : GCoreAct) (hn : n = w.heap.size) : World.putCells (w.alloc (.cells (GCoreAct.enc z).toArray 193)) ⟨n, 0, none⟩ (GCoreAct.enc x) = w.alloc (.cells (GCoreAct.enc x).toArray 193) := putCells_top x z hn
theorem GCoreAct.at_kind {w : World} {a : Addr} {x : GCoreAct} (h : get? GCoreAct w a = some x) : w.cell? (a.add 0) = some (.int .i64 x.kind) := (get?_iff.1 h) _ _ (lk193_0 x)
theorem GCoreAct.at_round {w : World} {a : Addr} {x : GCoreAct} (h : get? GCoreAct w a = some x) : w.cell? (a.add 1) = some (.int .i64 x.round) := (get?_iff.1 h) _ _ (lk193_1 x)
theorem GCoreAct.at_valid {w : World} {a : Addr} {x : GCoreAct} (h : get? GCoreAct w a = some x) : w.cell? (a.add 2) = some (.int .i64 x.valid) := (get?_iff.1 h) _ _ (lk193_2 x)
theorem GCoreAct.at_hash {w : World} {a : Addr} {x : GCoreAct} (h : get? GCoreAct w a = some x) : get? GHash w (a.add 3) = some x.hash := by
  rw [get?_iff] at h ⊢
  refine h.sub 3 fun j v hv => ?_
  have hd := ds193_3 x
  have hj : j < 32 := by have := (List.getElem?_eq_some_iff.1 hv).1; rwa [Enc.len] at this
  show x.enc[3 + j]? = some v
  rw [← List.getElem?_drop, ← List.getElem?_take_of_lt hj, hd]; exact hv
@[go_sem] theorem nw193 (w : World) (n : Nat) (x : GCoreAct) (hn : n = w.heap.size) : get? GCoreAct (w.alloc (.cells (GCoreAct.enc x).toArray 193)) ⟨n, 0, none⟩ = some x := by
  subst hn; exact get?_new 193 x
theorem pl193 : ((Tryz.prog.fieldsOf 193).toList.mapM fun f => (Tryz.prog.info? f.type).map fun i => (f.offset, i.size)) = some [(0, 1), (1, 1), (2, 1), (3, 32)] := by kernel_rfl
theorem fs193_0 (x : GCoreAct) (v : Int) (rest : List (Nat × Value)) : Instr.fill (fun i => ([(0, 1), (1, 1), (2, 1), (3, 32)] : List (Nat × Nat))[i]?) x.enc.toArray ((0, (.int .i64 v)) :: rest) = Instr.fill (fun i => ([(0, 1), (1, 1), (2, 1), (3, 32)] : List (Nat × Nat))[i]?) ({ x with kind := v } : GCoreAct).enc.toArray rest := by
  have h := fill_seg [(0, 1), (1, 1), (2, 1), (3, 32)] 0 0 1 rfl (([] : List Value)) ([(.int .i64 x.kind)]) ([(.int .i64 x.round)] ++ ([(.int .i64 x.valid)] ++ (x.hash.enc ++ (([] : List Value))))) ([(.int .i64 v)]) (.int .i64 v) rest (rfl) (by simp [GHash.enc_len]) (by simp [GHash.enc_len]) (by simp [GHash.enc_len])
  have e1 : x.enc = (([] : List Value)) ++ ([(.int .i64 x.kind)] ++ ([(.int .i64 x.round)] ++ ([(.int .i64 x.valid)] ++ (x.hash.enc ++ (([] : List Value)))))) := by simp only [GCoreAct.enc, List.nil_append, List.append_assoc, List.append_nil]
  have e2 : ({ x with kind := v } : GCoreAct).enc = (([] : List Value)) ++ ([(.int .i64 v)] ++ ([(.int .i64 x.round)] ++ ([(.int .i64 x.valid)] ++ (x.hash.enc ++ (([] : List Value)))))) := by simp only [GCoreAct.enc, List.nil_append, List.append_assoc, List.append_nil]
  rw [e1, e2]; exact h
theorem fs193_1 (x : GCoreAct) (v : Int) (rest : List (Nat × Value)) : Instr.fill (fun i => ([(0, 1), (1, 1), (2, 1), (3, 32)] : List (Nat × Nat))[i]?) x.enc.toArray ((1, (.int .i64 v)) :: rest) = Instr.fill (fun i => ([(0, 1), (1, 1), (2, 1), (3, 32)] : List (Nat × Nat))[i]?) ({ x with round := v } : GCoreAct).enc.toArray rest := by
  have h := fill_seg [(0, 1), (1, 1), (2, 1), (3, 32)] 1 1 1 rfl (([] : List Value) ++ ([(.int .i64 x.kind)])) ([(.int .i64 x.round)]) ([(.int .i64 x.valid)] ++ (x.hash.enc ++ (([] : List Value)))) ([(.int .i64 v)]) (.int .i64 v) rest (rfl) (by simp [GHash.enc_len]) (by simp [GHash.enc_len]) (by simp [GHash.enc_len])
  have e1 : x.enc = (([] : List Value) ++ ([(.int .i64 x.kind)])) ++ ([(.int .i64 x.round)] ++ ([(.int .i64 x.valid)] ++ (x.hash.enc ++ (([] : List Value))))) := by simp only [GCoreAct.enc, List.nil_append, List.append_assoc, List.append_nil]
  have e2 : ({ x with round := v } : GCoreAct).enc = (([] : List Value) ++ ([(.int .i64 x.kind)])) ++ ([(.int .i64 v)] ++ ([(.int .i64 x.valid)] ++ (x.hash.enc ++ (([] : List Value))))) := by simp only [GCoreAct.enc, List.nil_append, List.append_assoc, List.append_nil]
  rw [e1, e2]; exact h
theorem fs193_2 (x : GCoreAct) (v : Int) (rest : List (Nat × Value)) : Instr.fill (fun i => ([(0, 1), (1, 1), (2, 1), (3, 32)] : List (Nat × Nat))[i]?) x.enc.toArray ((2, (.int .i64 v)) :: rest) = Instr.fill (fun i => ([(0, 1), (1, 1), (2, 1), (3, 32)] : List (Nat × Nat))[i]?) ({ x with valid := v } : GCoreAct).enc.toArray rest := by
  have h := fill_seg [(0, 1), (1, 1), (2, 1), (3, 32)] 2 2 1 rfl (([] : List Value) ++ ([(.int .i64 x.kind)] ++ ([(.int .i64 x.round)]))) ([(.int .i64 x.valid)]) (x.hash.enc ++ (([] : List Value))) ([(.int .i64 v)]) (.int .i64 v) rest (rfl) (by simp [GHash.enc_len]) (by simp [GHash.enc_len]) (by simp [GHash.enc_len])
  have e1 : x.enc = (([] : List Value) ++ ([(.int .i64 x.kind)] ++ ([(.int .i64 x.round)]))) ++ ([(.int .i64 x.valid)] ++ (x.hash.enc ++ (([] : List Value)))) := by simp only [GCoreAct.enc, List.nil_append, List.append_assoc, List.append_nil]
  have e2 : ({ x with valid := v } : GCoreAct).enc = (([] : List Value) ++ ([(.int .i64 x.kind)] ++ ([(.int .i64 x.round)]))) ++ ([(.int .i64 v)] ++ (x.hash.enc ++ (([] : List Value)))) := by simp only [GCoreAct.enc, List.nil_append, List.append_assoc, List.append_nil]
  rw [e1, e2]; exact h
theorem fs193_3 (x : GCoreAct) (v : GHash) (rest : List (Nat × Value)) : Instr.fill (fun i => ([(0, 1), (1, 1), (2, 1), (3, 32)] : List (Nat × Nat))[i]?) x.enc.toArray ((3, (v.val)) :: rest) = Instr.fill (fun i => ([(0, 1), (1, 1), (2, 1), (3, 32)] : List (Nat × Nat))[i]?) ({ x with hash := v } : GCoreAct).enc.toArray rest := by
  have h := fill_seg [(0, 1), (1, 1), (2, 1), (3, 32)] 3 3 32 rfl (([] : List Value) ++ ([(.int .i64 x.kind)] ++ ([(.int .i64 x.round)] ++ ([(.int .i64 x.valid)])))) (x.hash.enc) (([] : List Value)) (v.enc) (v.val) rest (by rw [GHash.val_eq]; rfl) (by simp [GHash.enc_len]) (by simp [GHash.enc_len]) (by simp [GHash.enc_len])
  have e1 : x.enc = (([] : List Value) ++ ([(.int .i64 x.kind)] ++ ([(.int .i64 x.round)] ++ ([(.int .i64 x.valid)])))) ++ (x.hash.enc ++ (([] : List Value))) := by simp only [GCoreAct.enc, List.nil_append, List.append_assoc, List.append_nil]
  have e2 : ({ x with hash := v } : GCoreAct).enc = (([] : List Value) ++ ([(.int .i64 x.kind)] ++ ([(.int .i64 x.round)] ++ ([(.int .i64 x.valid)])))) ++ (v.enc ++ (([] : List Value))) := by simp only [GCoreAct.enc, List.nil_append, List.append_assoc, List.append_nil]
  rw [e1, e2]; exact h
@[go_sem ↓ high] theorem xd_GCoreAct (ρ : Operand → Value) (dst : Option Tmp) (ps : Array (Nat × Operand)) (ty : TypeId) (pos : String) (after : Array Edge) (guard : Option (Nat × Bool)) : execOp ρ { dst, op := .build 193 ps, type := ty, pos, after, guard } = (do pure (.value (← gBuild 193 (ps.map fun (i, x) => (i, ρ x))))) := ex_build ..
@[go_sem ↓ high] theorem bd193_0 (w : World) (v0 : Int) (v1 : Int) (v2 : Int) : (gBuild 193 #[(0, (.int .i64 v0)), (1, (.int .i64 v1)), (2, (.int .i64 v2))]).run Tryz.prog w = .ok (GCoreAct.val ⟨v0, v1, v2, default⟩) w := by
  rw [GCoreAct.val_eq]
  refine run_gBuild_of uu193 zr193 pl193 ?_ w
  show Instr.fill _ (GCoreAct.enc default).toArray [(0, (.int .i64 v0)), (1, (.int .i64 v1)), (2, (.int .i64 v2))] = _
  rw [fs193_0, fs193_1, fs193_2]; rfl
@[go_sem ↓ high] theorem bd193_1 (w : World) (v0 : Int) (v1 : Int) (v2 : Int) (v3 : GHash) : (gBuild 193 #[(0, (.int .i64 v0)), (1, (.int .i64 v1)), (2, (.int .i64 v2)), (3, (v3.val))]).run Tryz.prog w = .ok (GCoreAct.val ⟨v0, v1, v2, v3⟩) w := by
  rw [GCoreAct.val_eq]
  refine run_gBuild_of uu193 zr193 pl193 ?_ w
  show Instr.fill _ (GCoreAct.enc default).toArray [(0, (.int .i64 v0)), (1, (.int .i64 v1)), (2, (.int .i64 v2)), (3, (v3.val))] = _
  rw [fs193_0, fs193_1, fs193_2, fs193_3]; rfl
/-! ### gavel/core.proposal -/
structure GCoreProposal where
  valid : Int
  h : GHash
  ok : Bool
deriving DecidableEq
instance : Inhabited GCoreProposal := ⟨⟨0, default, false⟩⟩
def GCoreProposal.enc (x : GCoreProposal) : List Value := [(.int .i64 x.valid)] ++ (x.h.enc ++ ([(.bool x.ok)]))
theorem GCoreProposal.enc_len (x : GCoreProposal) : x.enc.length = 34 := by simp [GCoreProposal.enc, GHash.enc_len]
theorem GCoreProposal.enc_one (x : GCoreProposal) : ∀ u ∈ x.enc, u.oneCell' = true := by
  intro u hu
  simp only [GCoreProposal.enc, List.mem_append, List.mem_singleton] at hu
  rcases hu with hu | hu | hu
  · subst hu; rfl
  · exact Enc.one (α := GHash) _ _ hu
  · subst hu; rfl
theorem GCoreProposal.enc_inj (x y : GCoreProposal) (h : x.enc = y.enc) : x = y := by
  obtain ⟨a0, a1, a2⟩ := x
  obtain ⟨b0, b1, b2⟩ := y
  simp only [GCoreProposal.enc] at h
  obtain ⟨p0, q0⟩ := List.append_inj h (rfl)
  have e0 : a0 = b0 := by have := List.head_eq_of_cons_eq p0; injection this
  obtain ⟨p1, q1⟩ := List.append_inj q0 (by simp [GHash.enc_len])
  have e1 := Enc.inj (α := GHash) _ _ p1
  have e2 : a2 = b2 := by have := List.head_eq_of_cons_eq q1; injection this
  rw [e0, e1, e2]
instance : Enc GCoreProposal where
  n := 34
  enc := GCoreProposal.enc
  pos := by omega
  len := GCoreProposal.enc_len
  one := GCoreProposal.enc_one
  inj := GCoreProposal.enc_inj
@[go_sem] theorem GCoreProposal.n_eq : Enc.n GCoreProposal = 34 := rfl
@[irreducible] def GCoreProposal.val (x : GCoreProposal) : Value := .agg x.enc.toArray
theorem GCoreProposal.val_eq (x : GCoreProposal) : GCoreProposal.val x = .agg (Enc.enc x).toArray := by unfold GCoreProposal.val; rfl
@[go_sem ↓ high] theorem xs_GCoreProposal (ρ : Operand → Value) (dst : Option Tmp) (x y : Operand) (ty : TypeId) (pos : String) (after : Array Edge) (guard : Option (Nat × Bool)) : execOp ρ { dst, op := .store 306 x y, type := ty, pos, after, guard } = (do gStore 306 (ρ x) (ρ y); pure .skip) := ex_store ..
@[go_sem ↓ high] theorem xa_GCoreProposal (ρ : Operand → Value) (dst : Option Tmp) (ty : TypeId) (pos : String) (after : Array Edge) (guard : Option (Nat × Bool)) : execOp ρ { dst, op := .alloc 306, type := ty, pos, after, guard } = (do pure (.value (← gAlloc 306))) := ex_alloc ..
theorem sz306 : sizeT Tryz.prog 306 = 34 := by kernel_rfl
section
variable (w : World)
@[go_sem ↓ high] theorem st_GCoreProposal (a : Addr) (x : GCoreProposal) : (gStore 306 (.pointer (some a)) (GCoreProposal.val x)).run Tryz.prog w = okU' ((get? GCoreProposal w a).isSome && blkFree w a.block) (World.putCells w a (GCoreProposal.enc x)) (noStore Tryz.prog 306 (.pointer (some a)) (GCoreProposal.val x) w) := run_gStore_any sz306 GCoreProposal.val GCoreProposal.val_eq w a x
end
theorem zr306 : zeroT Tryz.prog 306 = some (.agg (GCoreProposal.enc default).toArray) := by kernel_rfl
@[go_sem ↓ high] theorem al_GCoreProposal (w : World) : (gAlloc 306).run Tryz.prog w = .ok (.pointer (some ⟨w.heap.size, 0, none⟩)) (w.alloc (.cells (GCoreProposal.enc default).toArray 306)) := run_zero_alloc zr306 w
/-! ### []core.Act -/
theorem ei126 : ElemI Tryz.prog 126 193 GCoreAct 56 := ⟨by kernel_rfl, by kernel_rfl⟩
@[go_sem ↓ high] theorem xg_126 (ρ : Operand → Value) (dst : Option Tmp) (ps : Array (Nat × Operand)) (ty : TypeId) (pos : String) (after : Array Edge) (guard : Option (Nat × Bool)) : execOp ρ { dst, op := .buildSlice 126 1 ps, type := ty, pos, after, guard } = (do pure (.value (← gBuildSlice 126 1 (ps.map fun (i, x) => (i, ρ x))))) := ex_buildSlice ..
@[go_sem ↓ high] theorem bs_126 (w : World) (x : GCoreAct) : (gBuildSlice 126 1 #[(0, GCoreAct.val x)]).run Tryz.prog w = .ok (.slice (some ⟨w.heap.size, 0, none⟩) 1 1) (w.alloc (.cells (GCoreAct.enc x).toArray 193)) := by
  rw [GCoreAct.val_eq]; exact run_buildSlice_one ei126 (by decide) x w
instance : KEnc GTallyVoter := ⟨GTallyVoter.val, fun a b h => by rw [GTallyVoter.val_eq, GTallyVoter.val_eq] at h; injection h with h; exact Enc.inj _ _ (by simpa using congrArg Array.toList h)⟩
/-! ### map[tally.voter]bool -/
instance : KEnc GTallyTurn := ⟨GTallyTurn.val, fun a b h => by rw [GTallyTurn.val_eq, GTallyTurn.val_eq] at h; injection h with h; exact Enc.inj _ _ (by simpa using congrArg Array.toList h)⟩
theorem kl345 : KeyLaws Tryz.prog 345 GTallyTurn where
  chk := fun e k w => by
    show (Instr.checkKey e 10000 345 (GTallyTurn.val k)).run Tryz.prog w = _
    rw [GTallyTurn.val_eq]
    rw [run_checkKey_struct e 9999 _ w uu345 nb345, fl345]
    show (chkFs e 9999 k.enc.toArray _).run Tryz.prog w = _
    simp only [chkFs, Sem.run_bind, pt345_0, pt345_1, Result.andThen_ok, run_checkKey_one e 9998 uk3, Sem.run_pure]
  fnd := fnd_struct (fun k k' w => eq_GTallyTurn w 9998 k k') uu345 (fun k k' => by show Instr.sameNow _ (GTallyTurn.val k) (GTallyTurn.val k') = none; rw [GTallyTurn.val_eq, GTallyTurn.val_eq]; rfl)
  same := fun k => by
    show Instr.sameBits 10000 (GTallyTurn.val k) (GTallyTurn.val k) = true
    rw [GTallyTurn.val_eq]
    exact sameBits_cells 9999 _ (Enc.one k) (fun u hu => by
      have hu' : u ∈ k.enc := hu
      unfold GTallyTurn.enc at hu'
      simp only [List.mem_append, List.mem_singleton] at hu'
      rcases hu' with rfl | rfl <;> exact sameBits_int _ _ _)

/-! ### map[tally.turn]int -/
theorem um333 : Tryz.prog.underlying 333 = some (.map 345 3) := by kernel_rfl
theorem zv333_3 : zeroT Tryz.prog 3 = some (VEnc.vv (0 : Int)) := by kernel_rfl
@[go_sem ↓ high] theorem xk_333 (ρ : Operand → Value) (dst : Option Tmp) (x y : Operand) (ok : Bool) (ty : TypeId) (pos : String) (after : Array Edge) (guard : Option (Nat × Bool)) : execOp ρ { dst, op := .lookup 333 x y ok, type := ty, pos, after, guard } = (do pure (.value (← gLookup 333 (ρ x) (ρ y) ok))) := ex_lookup ..
@[go_sem ↓ high] theorem lk_333 (w : World) (r : Nat) (k : GTallyTurn) : (gLookup 333 (.map (some r)) (GTallyTurn.val k) false).run Tryz.prog w = ofOpt ((mapAt GTallyTurn Int w r).map fun m => (.int .i64 ((mget m k).getD 0))) w (noLookup Tryz.prog 333 (.map (some r)) (GTallyTurn.val k) false w) :=
  run_gLookup kl345 um333 zv333_3 w r k
/-! ### map[int]int -/
theorem um334 : Tryz.prog.underlying 334 = some (.map 3 3) := by kernel_rfl
instance : VEnc GCoreProposal := ⟨GCoreProposal.val, fun a b h => by rw [GCoreProposal.val_eq, GCoreProposal.val_eq] at h; injection h with h; exact Enc.inj _ _ (by simpa using congrArg Array.toList h)⟩

/-! ### map[int]core.proposal -/
theorem um199 : Tryz.prog.underlying 199 = some (.map 3 306) := by kernel_rfl
theorem zv199_306 : zeroT Tryz.prog 306 = some (VEnc.vv (default : GCoreProposal)) := by kernel_rfl
@[go_sem ↓ high] theorem xk_199 (ρ : Operand → Value) (dst : Option Tmp) (x y : Operand) (ok : Bool) (ty : TypeId) (pos : String) (after : Array Edge) (guard : Option (Nat × Bool)) : execOp ρ { dst, op := .lookup 199 x y ok, type := ty, pos, after, guard } = (do pure (.value (← gLookup 199 (ρ x) (ρ y) ok))) := ex_lookup ..
@[go_sem ↓ high] theorem lo_199 (w : World) (r : Nat) (k : Int) : (gLookup 199 (.map (some r)) (.int .i64 k) true).run Tryz.prog w = ofOpt ((mapAt Int GCoreProposal w r).map fun m => .tuple #[(GCoreProposal.val ((mget m k).getD default)), .bool (mget m k).isSome]) w (noLookup Tryz.prog 199 (.map (some r)) (.int .i64 k) true w) :=
  run_gLookup_ok kl3 um199 zv199_306 w r k
end Go.Proofs.YtfhhcgldikmejaaGreatDoor
/- The struct types of this seat as Lean types, with the runs of single operations over them. Conditions: those named in each theorem. -/
namespace Go.Proofs.YtfhhcgldikmejaaGreatDoor
open Go Go.RowKit Go.Gv
set_option linter.unusedSimpArgs false

/-! ### gavel/api.Vote -/
structure GVote where
  kind : Int
  epoch : Int
  round : Int
  replica : Int
  hash : GHash
  sig : GSig
deriving DecidableEq
instance : Inhabited GVote := ⟨⟨0, 0, 0, 0, default, default⟩⟩
def GVote.enc (x : GVote) : List Value := [(.int .i64 x.kind)] ++ ([(.int .i64 x.epoch)] ++ ([(.int .i64 x.round)] ++ ([(.int .i64 x.replica)] ++ (x.hash.enc ++ (x.sig.enc)))))
theorem GVote.enc_len (x : GVote) : x.enc.length = 38 := by simp [GVote.enc, GHash.enc_len, GSig.enc_len]
theorem GVote.enc_one (x : GVote) : ∀ u ∈ x.enc, u.oneCell' = true := by
  intro u hu
  simp only [GVote.enc, List.mem_append, List.mem_singleton] at hu
  rcases hu with hu | hu | hu | hu | hu | hu
  · subst hu; rfl
  · subst hu; rfl
  · subst hu; rfl
  · subst hu; rfl
  · exact Enc.one (α := GHash) _ _ hu
  · exact Enc.one (α := GSig) _ _ hu
theorem GVote.enc_inj (x y : GVote) (h : x.enc = y.enc) : x = y := by
  obtain ⟨a0, a1, a2, a3, a4, a5⟩ := x
  obtain ⟨b0, b1, b2, b3, b4, b5⟩ := y
  simp only [GVote.enc] at h
  obtain ⟨p0, q0⟩ := List.append_inj h (rfl)
  have e0 : a0 = b0 := by have := List.head_eq_of_cons_eq p0; injection this
  obtain ⟨p1, q1⟩ := List.append_inj q0 (rfl)
  have e1 : a1 = b1 := by have := List.head_eq_of_cons_eq p1; injection this
  obtain ⟨p2, q2⟩ := List.append_inj q1 (rfl)
  have e2 : a2 = b2 := by have := List.head_eq_of_cons_eq p2; injection this
  obtain ⟨p3, q3⟩ := List.append_inj q2 (rfl)
  have e3 : a3 = b3 := by have := List.head_eq_of_cons_eq p3; injection this
  obtain ⟨p4, q4⟩ := List.append_inj q3 (by simp [GHash.enc_len])
  have e4 := Enc.inj (α := GHash) _ _ p4
  have e5 := Enc.inj (α := GSig) _ _ q4
  rw [e0, e1, e2, e3, e4, e5]
instance : Enc GVote where
  n := 38
  enc := GVote.enc
  pos := by omega
  len := GVote.enc_len
  one := GVote.enc_one
  inj := GVote.enc_inj
@[go_sem] theorem GVote.n_eq : Enc.n GVote = 38 := rfl
@[irreducible] def GVote.val (x : GVote) : Value := .agg x.enc.toArray
theorem GVote.val_eq (x : GVote) : GVote.val x = .agg (Enc.enc x).toArray := by unfold GVote.val; rfl
theorem GVote.ext_all (x y : GVote) : x = y ↔ x.kind = y.kind ∧ x.epoch = y.epoch ∧ x.round = y.round ∧ x.replica = y.replica ∧ x.hash = y.hash ∧ x.sig = y.sig := by
  constructor
  · intro h; cases h; simp
  · intro h; cases x; cases y; simp_all
theorem uu58 : Tryz.prog.underlying 58 = some (.struct (Tryz.prog.fieldsOf 58)) := by kernel_rfl
theorem st58 : Tryz.prog.stoodInHeld 58 = false := by kernel_rfl
theorem fl58 : fieldTO Tryz.prog 58 = [(3, 0), (3, 1), (3, 2), (3, 3), (35, 4), (37, 36)] := by kernel_rfl
theorem nb58 : noBlank Tryz.prog 58 = true := by kernel_rfl
@[go_sem ↓ high] theorem xl_GVote (ρ : Operand → Value) (dst : Option Tmp) (x : Operand) (ty : TypeId) (pos : String) (after : Array Edge) (guard : Option (Nat × Bool)) : execOp ρ { dst, op := .load 58 x, type := ty, pos, after, guard } = (do pure (.value (← gLoad 58 (ρ x)))) := ex_load ..
theorem ag58 : aggT Tryz.prog 58 = true := by kernel_rfl
theorem sz58 : sizeT Tryz.prog 58 = 38 := by kernel_rfl
section
variable (w : World)
@[go_sem ↓ high] theorem ld_GVote (a : Addr) : (gLoad 58 (.pointer (some a))).run Tryz.prog w = ofOpt ((get? GVote w a).map GVote.val) w (noLoad Tryz.prog 58 a w) := by
  unfold gLoad; exact run_loadAt_opt ag58 sz58 GVote.val GVote.val_eq
end
theorem lk58_0 (x : GVote) : x.enc[0]? = some (.int .i64 x.kind) := by
  simp [GVote.enc, List.getElem?_append]
theorem pt58_0 (w : World) (x : GVote) : (part 3 x.enc.toArray 0).run Tryz.prog w = .ok (.int .i64 x.kind) w := run_part_one na3 us3 (lk58_0 x)
theorem lk58_1 (x : GVote) : x.enc[1]? = some (.int .i64 x.epoch) := by
  simp [GVote.enc, List.getElem?_append]
theorem pt58_1 (w : World) (x : GVote) : (part 3 x.enc.toArray 1).run Tryz.prog w = .ok (.int .i64 x.epoch) w := run_part_one na3 us3 (lk58_1 x)
theorem lk58_2 (x : GVote) : x.enc[2]? = some (.int .i64 x.round) := by
  simp [GVote.enc, List.getElem?_append]
theorem pt58_2 (w : World) (x : GVote) : (part 3 x.enc.toArray 2).run Tryz.prog w = .ok (.int .i64 x.round) w := run_part_one na3 us3 (lk58_2 x)
theorem lk58_3 (x : GVote) : x.enc[3]? = some (.int .i64 x.replica) := by
  simp [GVote.enc, List.getElem?_append]
theorem pt58_3 (w : World) (x : GVote) : (part 3 x.enc.toArray 3).run Tryz.prog w = .ok (.int .i64 x.replica) w := run_part_one na3 us3 (lk58_3 x)
theorem ds58_4 (x : GVote) : (x.enc.drop 4).take 32 = x.hash.enc := by
  unfold GVote.enc
  simp [List.drop_append, List.drop_eq_nil_of_le] <;> (rw [List.take_append_of_le_length (by simp [GHash.enc_len])]; exact List.take_of_length_le (by simp [GHash.enc_len]))
theorem pt58_4 (w : World) (x : GVote) : (part 35 x.enc.toArray 4).run Tryz.prog w = .ok (x.hash.val) w := by
  have h := run_part_agg (P := Tryz.prog) (w := w) (cs := x.enc) (ds := x.hash.enc) (off := 4) ag35 (by rw [GHash.enc_len]; exact sz35) (by simp [GHash.enc_len]) (by rw [GHash.enc_len]; exact ds58_4 x)
  rw [h, GHash.val_eq]; rfl
theorem ds58_5 (x : GVote) : (x.enc.drop 36).take 2 = x.sig.enc := by
  unfold GVote.enc
  simp [List.drop_append, List.drop_eq_nil_of_le, GHash.enc_len] <;> (exact List.take_of_length_le (by simp [GSig.enc_len]))
theorem pt58_5 (w : World) (x : GVote) : (part 37 x.enc.toArray 36).run Tryz.prog w = .ok (x.sig.val) w := by
  have h := run_part_agg (P := Tryz.prog) (w := w) (cs := x.enc) (ds := x.sig.enc) (off := 36) ag37 (by rw [GSig.enc_len]; exact sz37) (by simp [GSig.enc_len]) (by rw [GSig.enc_len]; exact ds58_5 x)
  rw [h, GSig.val_eq]; rfl
theorem eq_GVote (w : World) (d : Nat) (x y : GVote) : (Op.equalIn (d + 3) 58 (GVote.val x) (GVote.val y)).run Tryz.prog w = .ok (decide (x = y)) w := by
  have q0 : ∀ a b, (Op.equalIn (d + 2) 3 (.int .i64 a) (.int .i64 b)).run Tryz.prog w = .ok (decide (a = b)) w := fun a b => by rw [run_equalIn_int w (d + 1) 3 .i64 .i64 a b uk3]; congr 1
  have q1 : ∀ a b, (Op.equalIn (d + 2) 3 (.int .i64 a) (.int .i64 b)).run Tryz.prog w = .ok (decide (a = b)) w := fun a b => by rw [run_equalIn_int w (d + 1) 3 .i64 .i64 a b uk3]; congr 1
  have q2 : ∀ a b, (Op.equalIn (d + 2) 3 (.int .i64 a) (.int .i64 b)).run Tryz.prog w = .ok (decide (a = b)) w := fun a b => by rw [run_equalIn_int w (d + 1) 3 .i64 .i64 a b uk3]; congr 1
  have q3 : ∀ a b, (Op.equalIn (d + 2) 3 (.int .i64 a) (.int .i64 b)).run Tryz.prog w = .ok (decide (a = b)) w := fun a b => by rw [run_equalIn_int w (d + 1) 3 .i64 .i64 a b uk3]; congr 1
  have q4 : (Op.equalIn (d + 2) 35 x.hash.val y.hash.val).run Tryz.prog w = .ok (decide (x.hash = y.hash)) w := eq_GHash w (d + 0) _ _
  have q5 : (Op.equalIn (d + 2) 37 x.sig.val y.sig.val).run Tryz.prog w = .ok (decide (x.sig = y.sig)) w := eq_GSig w (d + 0) _ _
  have h := run_equalIn_fields (d + 2) x.enc.toArray y.enc.toArray w uu58 st58 nb58
  rw [fl58] at h
  unfold GVote.val
  refine h.trans ?_
  clear h
  simp only [eqFs, Sem.run_bind, pt58_0, pt58_1, pt58_2, pt58_3, pt58_4, pt58_5, q0, q1, q2, q3, q4, q5, Result.andThen_ok, Sem.run_ite, Sem.run_pure]
  have he : decide (x = y) = (decide (x.kind = y.kind) && (decide (x.epoch = y.epoch) && (decide (x.round = y.round) && (decide (x.replica = y.replica) && (decide (x.hash = y.hash) && (decide (x.sig = y.sig))))))) := by
    rw [Bool.eq_iff_iff]; simp only [Bool.and_eq_true, decide_eq_true_eq]; exact GVote.ext_all x y
  rw [he]
  generalize decide (x.kind = y.kind) = c0; generalize decide (x.epoch = y.epoch) = c1; generalize decide (x.round = y.round) = c2; generalize decide (x.replica = y.replica) = c3; generalize decide (x.hash = y.hash) = c4; generalize decide (x.sig = y.sig) = c5
  cases c0 <;> cases c1 <;> cases c2 <;> cases c3 <;> cases c4 <;> cases c5 <;> simp
@[go_sem ↓ high] theorem xq_GVote (ρ : Operand → Value) (dst : Option Tmp) (x y : Operand) (ty yt : TypeId) (pos : String) (after : Array Edge) (guard : Option (Nat × Bool)) : execOp ρ { dst, op := .binOp .eql 58 x y yt, type := ty, pos, after, guard } = (do pure (.value (← gBin .eql 58 x y (ρ x) (ρ y)))) := ex_eql ..
theorem eg_GVote : Tryz.prog.eqGuardType Tryz.prog.depth 58 = false := by kernel_rfl
@[go_sem ↓ high] theorem eql_GVote (w : World) (ox oy : Operand) (x y : GVote) : (gBin .eql 58 ox oy (GVote.val x) (GVote.val y)).run Tryz.prog w = .ok (.bool (decide (x = y))) w := by
  have h2 := eq_GVote w 9997 x y
  rw [GVote.val_eq, GVote.val_eq] at h2 ⊢
  have h := run_eqGuard_agg (P := Tryz.prog) w .eql 58 ox oy (Enc.enc x).toArray (Enc.enc y).toArray eg_GVote
  unfold gBin
  simp only [Sem.run_bind, h, Result.andThen_ok, run_eql_struct, h2]
/-! ### gavel/api.Ack -/
structure GAck where
  replica : Int
  name : GName
  hash : GHash
  median : Int
  sig : GSig
deriving DecidableEq
instance : Inhabited GAck := ⟨⟨0, default, default, 0, default⟩⟩
def GAck.enc (x : GAck) : List Value := [(.int .i64 x.replica)] ++ (x.name.enc ++ (x.hash.enc ++ ([(.int .u64 x.median)] ++ (x.sig.enc))))
theorem GAck.enc_len (x : GAck) : x.enc.length = 38 := by simp [GAck.enc, GHash.enc_len, GName.enc_len, GSig.enc_len]
theorem GAck.enc_one (x : GAck) : ∀ u ∈ x.enc, u.oneCell' = true := by
  intro u hu
  simp only [GAck.enc, List.mem_append, List.mem_singleton] at hu
  rcases hu with hu | hu | hu | hu | hu
  · subst hu; rfl
  · exact Enc.one (α := GName) _ _ hu
  · exact Enc.one (α := GHash) _ _ hu
  · subst hu; rfl
  · exact Enc.one (α := GSig) _ _ hu
theorem GAck.enc_inj (x y : GAck) (h : x.enc = y.enc) : x = y := by
  obtain ⟨a0, a1, a2, a3, a4⟩ := x
  obtain ⟨b0, b1, b2, b3, b4⟩ := y
  simp only [GAck.enc] at h
  obtain ⟨p0, q0⟩ := List.append_inj h (rfl)
  have e0 : a0 = b0 := by have := List.head_eq_of_cons_eq p0; injection this
  obtain ⟨p1, q1⟩ := List.append_inj q0 (by simp [GName.enc_len])
  have e1 := Enc.inj (α := GName) _ _ p1
  obtain ⟨p2, q2⟩ := List.append_inj q1 (by simp [GHash.enc_len])
  have e2 := Enc.inj (α := GHash) _ _ p2
  obtain ⟨p3, q3⟩ := List.append_inj q2 (rfl)
  have e3 : a3 = b3 := by have := List.head_eq_of_cons_eq p3; injection this
  have e4 := Enc.inj (α := GSig) _ _ q3
  rw [e0, e1, e2, e3, e4]
instance : Enc GAck where
  n := 38
  enc := GAck.enc
  pos := by omega
  len := GAck.enc_len
  one := GAck.enc_one
  inj := GAck.enc_inj
@[go_sem] theorem GAck.n_eq : Enc.n GAck = 38 := rfl
@[irreducible] def GAck.val (x : GAck) : Value := .agg x.enc.toArray
theorem GAck.val_eq (x : GAck) : GAck.val x = .agg (Enc.enc x).toArray := by unfold GAck.val; rfl
theorem GAck.ext_all (x y : GAck) : x = y ↔ x.replica = y.replica ∧ x.name = y.name ∧ x.hash = y.hash ∧ x.median = y.median ∧ x.sig = y.sig := by
  constructor
  · intro h; cases h; simp
  · intro h; cases x; cases y; simp_all
theorem uu46 : Tryz.prog.underlying 46 = some (.struct (Tryz.prog.fieldsOf 46)) := by kernel_rfl
theorem st46 : Tryz.prog.stoodInHeld 46 = false := by kernel_rfl
theorem fl46 : fieldTO Tryz.prog 46 = [(3, 0), (33, 1), (35, 3), (22, 35), (37, 36)] := by kernel_rfl
theorem nb46 : noBlank Tryz.prog 46 = true := by kernel_rfl
@[go_sem ↓ high] theorem xl_GAck (ρ : Operand → Value) (dst : Option Tmp) (x : Operand) (ty : TypeId) (pos : String) (after : Array Edge) (guard : Option (Nat × Bool)) : execOp ρ { dst, op := .load 46 x, type := ty, pos, after, guard } = (do pure (.value (← gLoad 46 (ρ x)))) := ex_load ..
theorem ag46 : aggT Tryz.prog 46 = true := by kernel_rfl
theorem sz46 : sizeT Tryz.prog 46 = 38 := by kernel_rfl
section
variable (w : World)
@[go_sem ↓ high] theorem ld_GAck (a : Addr) : (gLoad 46 (.pointer (some a))).run Tryz.prog w = ofOpt ((get? GAck w a).map GAck.val) w (noLoad Tryz.prog 46 a w) := by
  unfold gLoad; exact run_loadAt_opt ag46 sz46 GAck.val GAck.val_eq
end
theorem lk46_0 (x : GAck) : x.enc[0]? = some (.int .i64 x.replica) := by
  simp [GAck.enc, List.getElem?_append]
theorem pt46_0 (w : World) (x : GAck) : (part 3 x.enc.toArray 0).run Tryz.prog w = .ok (.int .i64 x.replica) w := run_part_one na3 us3 (lk46_0 x)
theorem ds46_1 (x : GAck) : (x.enc.drop 1).take 2 = x.name.enc := by
  unfold GAck.enc
  simp [List.drop_append, List.drop_eq_nil_of_le] <;> (rw [List.take_append_of_le_length (by simp [GName.enc_len])]; exact List.take_of_length_le (by simp [GName.enc_len]))
theorem pt46_1 (w : World) (x : GAck) : (part 33 x.enc.toArray 1).run Tryz.prog w = .ok (x.name.val) w := by
  have h := run_part_agg (P := Tryz.prog) (w := w) (cs := x.enc) (ds := x.name.enc) (off := 1) ag33 (by rw [GName.enc_len]; exact sz33) (by simp [GName.enc_len]) (by rw [GName.enc_len]; exact ds46_1 x)
  rw [h, GName.val_eq]; rfl
theorem ds46_2 (x : GAck) : (x.enc.drop 3).take 32 = x.hash.enc := by
  unfold GAck.enc
  simp [List.drop_append, List.drop_eq_nil_of_le, GName.enc_len] <;> (rw [List.take_append_of_le_length (by simp [GHash.enc_len])]; exact List.take_of_length_le (by simp [GHash.enc_len]))
theorem pt46_2 (w : World) (x : GAck) : (part 35 x.enc.toArray 3).run Tryz.prog w = .ok (x.hash.val) w := by
  have h := run_part_agg (P := Tryz.prog) (w := w) (cs := x.enc) (ds := x.hash.enc) (off := 3) ag35 (by rw [GHash.enc_len]; exact sz35) (by simp [GHash.enc_len]) (by rw [GHash.enc_len]; exact ds46_2 x)
  rw [h, GHash.val_eq]; rfl
theorem lk46_3 (x : GAck) : x.enc[35]? = some (.int .u64 x.median) := by
  simp [GAck.enc, List.getElem?_append, GHash.enc_len, GName.enc_len]
theorem pt46_3 (w : World) (x : GAck) : (part 22 x.enc.toArray 35).run Tryz.prog w = .ok (.int .u64 x.median) w := run_part_one na22 us22 (lk46_3 x)
theorem ds46_4 (x : GAck) : (x.enc.drop 36).take 2 = x.sig.enc := by
  unfold GAck.enc
  simp [List.drop_append, List.drop_eq_nil_of_le, GHash.enc_len, GName.enc_len] <;> (exact List.take_of_length_le (by simp [GSig.enc_len]))
theorem pt46_4 (w : World) (x : GAck) : (part 37 x.enc.toArray 36).run Tryz.prog w = .ok (x.sig.val) w := by
  have h := run_part_agg (P := Tryz.prog) (w := w) (cs := x.enc) (ds := x.sig.enc) (off := 36) ag37 (by rw [GSig.enc_len]; exact sz37) (by simp [GSig.enc_len]) (by rw [GSig.enc_len]; exact ds46_4 x)
  rw [h, GSig.val_eq]; rfl
theorem eq_GAck (w : World) (d : Nat) (x y : GAck) : (Op.equalIn (d + 3) 46 (GAck.val x) (GAck.val y)).run Tryz.prog w = .ok (decide (x = y)) w := by
  have q0 : ∀ a b, (Op.equalIn (d + 2) 3 (.int .i64 a) (.int .i64 b)).run Tryz.prog w = .ok (decide (a = b)) w := fun a b => by rw [run_equalIn_int w (d + 1) 3 .i64 .i64 a b uk3]; congr 1
  have q1 : (Op.equalIn (d + 2) 33 x.name.val y.name.val).run Tryz.prog w = .ok (decide (x.name = y.name)) w := eq_GName w (d + 0) _ _
  have q2 : (Op.equalIn (d + 2) 35 x.hash.val y.hash.val).run Tryz.prog w = .ok (decide (x.hash = y.hash)) w := eq_GHash w (d + 0) _ _
  have q3 : ∀ a b, (Op.equalIn (d + 2) 22 (.int .u64 a) (.int .u64 b)).run Tryz.prog w = .ok (decide (a = b)) w := fun a b => by rw [run_equalIn_int w (d + 1) 22 .u64 .u64 a b uk22]; congr 1
  have q4 : (Op.equalIn (d + 2) 37 x.sig.val y.sig.val).run Tryz.prog w = .ok (decide (x.sig = y.sig)) w := eq_GSig w (d + 0) _ _
  have h := run_equalIn_fields (d + 2) x.enc.toArray y.enc.toArray w uu46 st46 nb46
  rw [fl46] at h
  unfold GAck.val
  refine h.trans ?_
  clear h
  simp only [eqFs, Sem.run_bind, pt46_0, pt46_1, pt46_2, pt46_3, pt46_4, q0, q1, q2, q3, q4, Result.andThen_ok, Sem.run_ite, Sem.run_pure]
  have he : decide (x = y) = (decide (x.replica = y.replica) && (decide (x.name = y.name) && (decide (x.hash = y.hash) && (decide (x.median = y.median) && (decide (x.sig = y.sig)))))) := by
    rw [Bool.eq_iff_iff]; simp only [Bool.and_eq_true, decide_eq_true_eq]; exact GAck.ext_all x y
  rw [he]
  generalize decide (x.replica = y.replica) = c0; generalize decide (x.name = y.name) = c1; generalize decide (x.hash = y.hash) = c2; generalize decide (x.median = y.median) = c3; generalize decide (x.sig = y.sig) = c4
  cases c0 <;> cases c1 <;> cases c2 <;> cases c3 <;> cases c4 <;> simp
@[go_sem ↓ high] theorem xq_GAck (ρ : Operand → Value) (dst : Option Tmp) (x y : Operand) (ty yt : TypeId) (pos : String) (after : Array Edge) (guard : Option (Nat × Bool)) : execOp ρ { dst, op := .binOp .eql 46 x y yt, type := ty, pos, after, guard } = (do pure (.value (← gBin .eql 46 x y (ρ x) (ρ y)))) := ex_eql ..
theorem eg_GAck : Tryz.prog.eqGuardType Tryz.prog.depth 46 = false := by kernel_rfl
@[go_sem ↓ high] theorem eql_GAck (w : World) (ox oy : Operand) (x y : GAck) : (gBin .eql 46 ox oy (GAck.val x) (GAck.val y)).run Tryz.prog w = .ok (.bool (decide (x = y))) w := by
  have h2 := eq_GAck w 9997 x y
  rw [GAck.val_eq, GAck.val_eq] at h2 ⊢
  have h := run_eqGuard_agg (P := Tryz.prog) w .eql 46 ox oy (Enc.enc x).toArray (Enc.enc y).toArray eg_GAck
  unfold gBin
  simp only [Sem.run_bind, h, Result.andThen_ok, run_eql_struct, h2]
/-! ### gavel/api.Proposal -/
structure GProposal where
  epoch : Int
  round : Int
  valid : Int
  replica : Int
  batch : GBatch
  sig : GSig
deriving DecidableEq
instance : Inhabited GProposal := ⟨⟨0, 0, 0, 0, default, default⟩⟩
def GProposal.enc (x : GProposal) : List Value := [(.int .i64 x.epoch)] ++ ([(.int .i64 x.round)] ++ ([(.int .i64 x.valid)] ++ ([(.int .i64 x.replica)] ++ (x.batch.enc ++ (x.sig.enc)))))
theorem GProposal.enc_len (x : GProposal) : x.enc.length = 11 := by simp [GProposal.enc, GBatch.enc_len, GSig.enc_len]
theorem GProposal.enc_one (x : GProposal) : ∀ u ∈ x.enc, u.oneCell' = true := by
  intro u hu
  simp only [GProposal.enc, List.mem_append, List.mem_singleton] at hu
  rcases hu with hu | hu | hu | hu | hu | hu
  · subst hu; rfl
  · subst hu; rfl
  · subst hu; rfl
  · subst hu; rfl
  · exact Enc.one (α := GBatch) _ _ hu
  · exact Enc.one (α := GSig) _ _ hu
theorem GProposal.enc_inj (x y : GProposal) (h : x.enc = y.enc) : x = y := by
  obtain ⟨a0, a1, a2, a3, a4, a5⟩ := x
  obtain ⟨b0, b1, b2, b3, b4, b5⟩ := y
  simp only [GProposal.enc] at h
  obtain ⟨p0, q0⟩ := List.append_inj h (rfl)
  have e0 : a0 = b0 := by have := List.head_eq_of_cons_eq p0; injection this
  obtain ⟨p1, q1⟩ := List.append_inj q0 (rfl)
  have e1 : a1 = b1 := by have := List.head_eq_of_cons_eq p1; injection this
  obtain ⟨p2, q2⟩ := List.append_inj q1 (rfl)
  have e2 : a2 = b2 := by have := List.head_eq_of_cons_eq p2; injection this
  obtain ⟨p3, q3⟩ := List.append_inj q2 (rfl)
  have e3 : a3 = b3 := by have := List.head_eq_of_cons_eq p3; injection this
  obtain ⟨p4, q4⟩ := List.append_inj q3 (by simp [GBatch.enc_len])
  have e4 := Enc.inj (α := GBatch) _ _ p4
  have e5 := Enc.inj (α := GSig) _ _ q4
  rw [e0, e1, e2, e3, e4, e5]
instance : Enc GProposal where
  n := 11
  enc := GProposal.enc
  pos := by omega
  len := GProposal.enc_len
  one := GProposal.enc_one
  inj := GProposal.enc_inj
@[go_sem] theorem GProposal.n_eq : Enc.n GProposal = 11 := rfl
@[irreducible] def GProposal.val (x : GProposal) : Value := .agg x.enc.toArray
theorem GProposal.val_eq (x : GProposal) : GProposal.val x = .agg (Enc.enc x).toArray := by unfold GProposal.val; rfl
@[go_sem ↓ high] theorem xl_GProposal (ρ : Operand → Value) (dst : Option Tmp) (x : Operand) (ty : TypeId) (pos : String) (after : Array Edge) (guard : Option (Nat × Bool)) : execOp ρ { dst, op := .load 56 x, type := ty, pos, after, guard } = (do pure (.value (← gLoad 56 (ρ x)))) := ex_load ..
@[go_sem ↓ high] theorem xb_GProposal (ρ : Operand → Value) (dst : Option Tmp) (x : Operand) (ty : TypeId) (pos : String) (after : Array Edge) (guard : Option (Nat × Bool)) : execOp ρ { dst, op := .box 56 x, type := ty, pos, after, guard } = (do pure (.value (← gBox 56 (ρ x)))) := ex_box ..
theorem ag56 : aggT Tryz.prog 56 = true := by kernel_rfl
theorem sz56 : sizeT Tryz.prog 56 = 11 := by kernel_rfl
section
variable (w : World)
@[go_sem ↓ high] theorem ld_GProposal (a : Addr) : (gLoad 56 (.pointer (some a))).run Tryz.prog w = ofOpt ((get? GProposal w a).map GProposal.val) w (noLoad Tryz.prog 56 a w) := by
  unfold gLoad; exact run_loadAt_opt ag56 sz56 GProposal.val GProposal.val_eq
@[go_sem ↓ high] theorem bx_GProposal (x : GProposal) : (gBox 56 (GProposal.val x)).run Tryz.prog w = .ok (.pointer (some ⟨w.heap.size, 0, none⟩)) (w.alloc (.cells (GProposal.enc x).toArray 56)) := by
  rw [GProposal.val_eq]; exact run_gBox _ w
end
theorem lk56_0 (x : GProposal) : x.enc[0]? = some (.int .i64 x.epoch) := by
  simp [GProposal.enc, List.getElem?_append]
theorem lk56_1 (x : GProposal) : x.enc[1]? = some (.int .i64 x.round) := by
  simp [GProposal.enc, List.getElem?_append]
theorem lk56_2 (x : GProposal) : x.enc[2]? = some (.int .i64 x.valid) := by
  simp [GProposal.enc, List.getElem?_append]
theorem lk56_3 (x : GProposal) : x.enc[3]? = some (.int .i64 x.replica) := by
  simp [GProposal.enc, List.getElem?_append]
theorem ds56_4 (x : GProposal) : (x.enc.drop 4).take 5 = x.batch.enc := by
  unfold GProposal.enc
  simp [List.drop_append, List.drop_eq_nil_of_le] <;> (rw [List.take_append_of_le_length (by simp [GBatch.enc_len])]; exact List.take_of_length_le (by simp [GBatch.enc_len]))
theorem ds56_5 (x : GProposal) : (x.enc.drop 9).take 2 = x.sig.enc := by
  unfold GProposal.enc
  simp [List.drop_append, List.drop_eq_nil_of_le, GBatch.enc_len] <;> (exact List.take_of_length_le (by simp [GSig.enc_len]))
theorem GProposal.at_epoch {w : World} {a : Addr} {x : GProposal} (h : get? GProposal w a = some x) : w.cell? (a.add 0) = some (.int .i64 x.epoch) := (get?_iff.1 h) _ _ (lk56_0 x)
theorem GProposal.at_round {w : World} {a : Addr} {x : GProposal} (h : get? GProposal w a = some x) : w.cell? (a.add 1) = some (.int .i64 x.round) := (get?_iff.1 h) _ _ (lk56_1 x)
theorem GProposal.at_valid {w : World} {a : Addr} {x : GProposal} (h : get? GProposal w a = some x) : w.cell? (a.add 2) = some (.int .i64 x.valid) := (get?_iff.1 h) _ _ (lk56_2 x)
theorem GProposal.at_replica {w : World} {a : Addr} {x : GProposal} (h : get? GProposal w a = some x) : w.cell? (a.add 3) = some (.int .i64 x.replica) := (get?_iff.1 h) _ _ (lk56_3 x)
theorem GProposal.at_batch {w : World} {a : Addr} {x : GProposal} (h : get? GProposal w a = some x) : get? GBatch w (a.add 4) = some x.batch := by
  rw [get?_iff] at h ⊢
  refine h.sub 4 fun j v hv => ?_
  have hd := ds56_4 x
  have hj : j < 5 := by have := (List.getElem?_eq_some_iff.1 hv).1; rwa [Enc.len] at this
  show x.enc[4 + j]? = some v
  rw [← List.getElem?_drop, ← List.getElem?_take_of_lt hj, hd]; exact hv
theorem GProposal.at_sig {w : World} {a : Addr} {x : GProposal} (h : get? GProposal w a = some x) : get? GSig w (a.add 9) = some x.sig := by
  rw [get?_iff] at h ⊢
  refine h.sub 9 fun j v hv => ?_
  have hd := ds56_5 x
  have hj : j < 2 := by have := (List.getElem?_eq_some_iff.1 hv).1; rwa [Enc.len] at this
  show x.enc[9 + j]? = some v
  rw [← List.getElem?_drop, ← List.getElem?_take_of_lt hj, hd]; exact hv
/-! ### gavel/api.Decided -/
structure GDecided where
  epoch : Int
  round : Int
  batch : GBatch
  votes : Hdr
deriving DecidableEq
instance : Inhabited GDecided := ⟨⟨0, 0, default, default⟩⟩
def GDecided.enc (x : GDecided) : List Value := [(.int .i64 x.epoch)] ++ ([(.int .i64 x.round)] ++ (x.batch.enc ++ ([(x.votes.val)])))
theorem GDecided.enc_len (x : GDecided) : x.enc.length = 8 := by simp [GDecided.enc, GBatch.enc_len]
theorem GDecided.enc_one (x : GDecided) : ∀ u ∈ x.enc, u.oneCell' = true := by
  intro u hu
  simp only [GDecided.enc, List.mem_append, List.mem_singleton] at hu
  rcases hu with hu | hu | hu | hu
  · subst hu; rfl
  · subst hu; rfl
  · exact Enc.one (α := GBatch) _ _ hu
  · subst hu; rfl
theorem GDecided.enc_inj (x y : GDecided) (h : x.enc = y.enc) : x = y := by
  obtain ⟨a0, a1, a2, a3⟩ := x
  obtain ⟨b0, b1, b2, b3⟩ := y
  simp only [GDecided.enc] at h
  obtain ⟨p0, q0⟩ := List.append_inj h (rfl)
  have e0 : a0 = b0 := by have := List.head_eq_of_cons_eq p0; injection this
  obtain ⟨p1, q1⟩ := List.append_inj q0 (rfl)
  have e1 : a1 = b1 := by have := List.head_eq_of_cons_eq p1; injection this
  obtain ⟨p2, q2⟩ := List.append_inj q1 (by simp [GBatch.enc_len])
  have e2 := Enc.inj (α := GBatch) _ _ p2
  have e3 : a3 = b3 := Enc.inj (α := Hdr) _ _ q2
  rw [e0, e1, e2, e3]
instance : Enc GDecided where
  n := 8
  enc := GDecided.enc
  pos := by omega
  len := GDecided.enc_len
  one := GDecided.enc_one
  inj := GDecided.enc_inj
@[go_sem] theorem GDecided.n_eq : Enc.n GDecided = 8 := rfl
@[irreducible] def GDecided.val (x : GDecided) : Value := .agg x.enc.toArray
section
variable (w : World)
end
theorem lk68_0 (x : GDecided) : x.enc[0]? = some (.int .i64 x.epoch) := by
  simp [GDecided.enc, List.getElem?_append]
theorem lk68_1 (x : GDecided) : x.enc[1]? = some (.int .i64 x.round) := by
  simp [GDecided.enc, List.getElem?_append]
theorem ds68_2 (x : GDecided) : (x.enc.drop 2).take 5 = x.batch.enc := by
  unfold GDecided.enc
  simp [List.drop_append, List.drop_eq_nil_of_le] <;> (rw [List.take_append_of_le_length (by simp [GBatch.enc_len])]; exact List.take_of_length_le (by simp [GBatch.enc_len]))
theorem lk68_3 (x : GDecided) : x.enc[7]? = some (x.votes.val) := by
  simp [GDecided.enc, List.getElem?_append, GBatch.enc_len]
theorem GDecided.at_epoch {w : World} {a : Addr} {x : GDecided} (h : get? GDecided w a = some x) : w.cell? (a.add 0) = some (.int .i64 x.epoch) := (get?_iff.1 h) _ _ (lk68_0 x)
theorem GDecided.at_round {w : World} {a : Addr} {x : GDecided} (h : get? GDecided w a = some x) : w.cell? (a.add 1) = some (.int .i64 x.round) := (get?_iff.1 h) _ _ (lk68_1 x)
theorem GDecided.at_batch {w : World} {a : Addr} {x : GDecided} (h : get? GDecided w a = some x) : get? GBatch w (a.add 2) = some x.batch := by
  rw [get?_iff] at h ⊢
  refine h.sub 2 fun j v hv => ?_
  have hd := ds68_2 x
  have hj : j < 5 := by have := (List.getElem?_eq_some_iff.1 hv).1; rwa [Enc.len] at this
  show x.enc[2 + j]? = some v
  rw [← List.getElem?_drop, ← List.getElem?_take_of_lt hj, hd]; exact hv
theorem GDecided.at_votes {w : World} {a : Addr} {x : GDecided} (h : get? GDecided w a = some x) : w.cell? (a.add 7) = some (x.votes.val) := (get?_iff.1 h) _ _ (lk68_3 x)
/-! ### gavel/api.Msg -/
structure GMsg where
  kind : Int
  from_ : Int
  to : Int
  commit : GCommit
  stamp : GStamp
  cert : GCert
  ack : GAck
  epoch : Int
  round : Int
  time : Int
  promise : GPromise
  proposal : GProposal
  vote : GVote
  index : Int
  entry : GEntry
  opening : GOpening
  deny : GDeny
  reply : ByteArray
  decided : GDecided
deriving DecidableEq
instance : Inhabited GMsg := ⟨⟨0, 0, 0, default, default, default, default, 0, 0, 0, default, default, default, 0, default, default, default, ByteArray.empty, default⟩⟩
def GMsg.enc (x : GMsg) : List Value := [(.int .i64 x.kind)] ++ ([(.int .i64 x.from_)] ++ ([(.int .i64 x.to)] ++ (x.commit.enc ++ (x.stamp.enc ++ (x.cert.enc ++ (x.ack.enc ++ ([(.int .i64 x.epoch)] ++ ([(.int .i64 x.round)] ++ ([(.int .u64 x.time)] ++ (x.promise.enc ++ (x.proposal.enc ++ (x.vote.enc ++ ([(.int .i64 x.index)] ++ (x.entry.enc ++ (x.opening.enc ++ (x.deny.enc ++ ([(.string x.reply)] ++ (x.decided.enc))))))))))))))))))
theorem GMsg.enc_len (x : GMsg) : x.enc.length = 295 := by simp [GMsg.enc, GAck.enc_len, GCert.enc_len, GCommit.enc_len, GDecided.enc_len, GDeny.enc_len, GEntry.enc_len, GOpening.enc_len, GPromise.enc_len, GProposal.enc_len, GStamp.enc_len, GVote.enc_len]
theorem GMsg.enc_one (x : GMsg) : ∀ u ∈ x.enc, u.oneCell' = true := by
  intro u hu
  simp only [GMsg.enc, List.mem_append, List.mem_singleton] at hu
  rcases hu with hu | hu | hu | hu | hu | hu | hu | hu | hu | hu | hu | hu | hu | hu | hu | hu | hu | hu | hu
  · subst hu; rfl
  · subst hu; rfl
  · subst hu; rfl
  · exact Enc.one (α := GCommit) _ _ hu
  · exact Enc.one (α := GStamp) _ _ hu
  · exact Enc.one (α := GCert) _ _ hu
  · exact Enc.one (α := GAck) _ _ hu
  · subst hu; rfl
  · subst hu; rfl
  · subst hu; rfl
  · exact Enc.one (α := GPromise) _ _ hu
  · exact Enc.one (α := GProposal) _ _ hu
  · exact Enc.one (α := GVote) _ _ hu
  · subst hu; rfl
  · exact Enc.one (α := GEntry) _ _ hu
  · exact Enc.one (α := GOpening) _ _ hu
  · exact Enc.one (α := GDeny) _ _ hu
  · subst hu; rfl
  · exact Enc.one (α := GDecided) _ _ hu
theorem GMsg.enc_inj (x y : GMsg) (h : x.enc = y.enc) : x = y := by
  obtain ⟨a0, a1, a2, a3, a4, a5, a6, a7, a8, a9, a10, a11, a12, a13, a14, a15, a16, a17, a18⟩ := x
  obtain ⟨b0, b1, b2, b3, b4, b5, b6, b7, b8, b9, b10, b11, b12, b13, b14, b15, b16, b17, b18⟩ := y
  simp only [GMsg.enc] at h
  obtain ⟨p0, q0⟩ := List.append_inj h (rfl)
  have e0 : a0 = b0 := by have := List.head_eq_of_cons_eq p0; injection this
  obtain ⟨p1, q1⟩ := List.append_inj q0 (rfl)
  have e1 : a1 = b1 := by have := List.head_eq_of_cons_eq p1; injection this
  obtain ⟨p2, q2⟩ := List.append_inj q1 (rfl)
  have e2 : a2 = b2 := by have := List.head_eq_of_cons_eq p2; injection this
  obtain ⟨p3, q3⟩ := List.append_inj q2 (by simp [GCommit.enc_len])
  have e3 := Enc.inj (α := GCommit) _ _ p3
  obtain ⟨p4, q4⟩ := List.append_inj q3 (by simp [GStamp.enc_len])
  have e4 := Enc.inj (α := GStamp) _ _ p4
  obtain ⟨p5, q5⟩ := List.append_inj q4 (by simp [GCert.enc_len])
  have e5 := Enc.inj (α := GCert) _ _ p5
  obtain ⟨p6, q6⟩ := List.append_inj q5 (by simp [GAck.enc_len])
  have e6 := Enc.inj (α := GAck) _ _ p6
  obtain ⟨p7, q7⟩ := List.append_inj q6 (rfl)
  have e7 : a7 = b7 := by have := List.head_eq_of_cons_eq p7; injection this
  obtain ⟨p8, q8⟩ := List.append_inj q7 (rfl)
  have e8 : a8 = b8 := by have := List.head_eq_of_cons_eq p8; injection this
  obtain ⟨p9, q9⟩ := List.append_inj q8 (rfl)
  have e9 : a9 = b9 := by have := List.head_eq_of_cons_eq p9; injection this
  obtain ⟨p10, q10⟩ := List.append_inj q9 (by simp [GPromise.enc_len])
  have e10 := Enc.inj (α := GPromise) _ _ p10
  obtain ⟨p11, q11⟩ := List.append_inj q10 (by simp [GProposal.enc_len])
  have e11 := Enc.inj (α := GProposal) _ _ p11
  obtain ⟨p12, q12⟩ := List.append_inj q11 (by simp [GVote.enc_len])
  have e12 := Enc.inj (α := GVote) _ _ p12
  obtain ⟨p13, q13⟩ := List.append_inj q12 (rfl)
  have e13 : a13 = b13 := by have := List.head_eq_of_cons_eq p13; injection this
  obtain ⟨p14, q14⟩ := List.append_inj q13 (by simp [GEntry.enc_len])
  have e14 := Enc.inj (α := GEntry) _ _ p14
  obtain ⟨p15, q15⟩ := List.append_inj q14 (by simp [GOpening.enc_len])
  have e15 := Enc.inj (α := GOpening) _ _ p15
  obtain ⟨p16, q16⟩ := List.append_inj q15 (by simp [GDeny.enc_len])
  have e16 := Enc.inj (α := GDeny) _ _ p16
  obtain ⟨p17, q17⟩ := List.append_inj q16 (rfl)
  have e17 : a17 = b17 := by have := List.head_eq_of_cons_eq p17; injection this
  have e18 := Enc.inj (α := GDecided) _ _ q17
  rw [e0, e1, e2, e3, e4, e5, e6, e7, e8, e9, e10, e11, e12, e13, e14, e15, e16, e17, e18]
instance : Enc GMsg where
  n := 295
  enc := GMsg.enc
  pos := by omega
  len := GMsg.enc_len
  one := GMsg.enc_one
  inj := GMsg.enc_inj
@[go_sem] theorem GMsg.n_eq : Enc.n GMsg = 295 := rfl
@[irreducible] def GMsg.val (x : GMsg) : Value := .agg x.enc.toArray
theorem GMsg.val_eq (x : GMsg) : GMsg.val x = .agg (Enc.enc x).toArray := by unfold GMsg.val; rfl
theorem uu70 : Tryz.prog.underlying 70 = some (.struct (Tryz.prog.fieldsOf 70)) := by kernel_rfl
@[go_sem ↓ high] theorem xl_GMsg (ρ : Operand → Value) (dst : Option Tmp) (x : Operand) (ty : TypeId) (pos : String) (after : Array Edge) (guard : Option (Nat × Bool)) : execOp ρ { dst, op := .load 70 x, type := ty, pos, after, guard } = (do pure (.value (← gLoad 70 (ρ x)))) := ex_load ..
@[go_sem ↓ high] theorem xs_GMsg (ρ : Operand → Value) (dst : Option Tmp) (x y : Operand) (ty : TypeId) (pos : String) (after : Array Edge) (guard : Option (Nat × Bool)) : execOp ρ { dst, op := .store 70 x y, type := ty, pos, after, guard } = (do gStore 70 (ρ x) (ρ y); pure .skip) := ex_store ..
@[go_sem ↓ high] theorem xb_GMsg (ρ : Operand → Value) (dst : Option Tmp) (x : Operand) (ty : TypeId) (pos : String) (after : Array Edge) (guard : Option (Nat × Bool)) : execOp ρ { dst, op := .box 70 x, type := ty, pos, after, guard } = (do pure (.value (← gBox 70 (ρ x)))) := ex_box ..
@[go_sem ↓ high] theorem xa_GMsg (ρ : Operand → Value) (dst : Option Tmp) (ty : TypeId) (pos : String) (after : Array Edge) (guard : Option (Nat × Bool)) : execOp ρ { dst, op := .alloc 70, type := ty, pos, after, guard } = (do pure (.value (← gAlloc 70))) := ex_alloc ..
theorem ag70 : aggT Tryz.prog 70 = true := by kernel_rfl
theorem sz70 : sizeT Tryz.prog 70 = 295 := by kernel_rfl
section
variable (w : World)
@[go_sem ↓ high] theorem ld_GMsg (a : Addr) : (gLoad 70 (.pointer (some a))).run Tryz.prog w = ofOpt ((get? GMsg w a).map GMsg.val) w (noLoad Tryz.prog 70 a w) := by
  unfold gLoad; exact run_loadAt_opt ag70 sz70 GMsg.val GMsg.val_eq
@[go_sem ↓ high] theorem st_GMsg (a : Addr) (x : GMsg) : (gStore 70 (.pointer (some a)) (GMsg.val x)).run Tryz.prog w = okU' ((get? GMsg w a).isSome && blkFree w a.block) (World.putCells w a (GMsg.enc x)) (noStore Tryz.prog 70 (.pointer (some a)) (GMsg.val x) w) := run_gStore_any sz70 GMsg.val GMsg.val_eq w a x
@[go_sem ↓ high] theorem bx_GMsg (x : GMsg) : (gBox 70 (GMsg.val x)).run Tryz.prog w = .ok (.pointer (some ⟨w.heap.size, 0, none⟩)) (w.alloc (.cells (GMsg.enc x).toArray 70)) := by
  rw [GMsg.val_eq]; exact run_gBox _ w
end
theorem lk70_0 (x : GMsg) : x.enc[0]? = some (.int .i64 x.kind) := by
  simp [GMsg.enc, List.getElem?_append]
theorem lk70_1 (x : GMsg) : x.enc[1]? = some (.int .i64 x.from_) := by
  simp [GMsg.enc, List.getElem?_append]
theorem lk70_2 (x : GMsg) : x.enc[2]? = some (.int .i64 x.to) := by
  simp [GMsg.enc, List.getElem?_append]
theorem ds70_3 (x : GMsg) : (x.enc.drop 3).take 37 = x.commit.enc := by
  unfold GMsg.enc
  simp [List.drop_append, List.drop_eq_nil_of_le] <;> (rw [List.take_append_of_le_length (by simp [GCommit.enc_len])]; exact List.take_of_length_le (by simp [GCommit.enc_len]))
theorem ds70_4 (x : GMsg) : (x.enc.drop 40).take 38 = x.stamp.enc := by
  unfold GMsg.enc
  simp [List.drop_append, List.drop_eq_nil_of_le, GCommit.enc_len] <;> (rw [List.take_append_of_le_length (by simp [GStamp.enc_len])]; exact List.take_of_length_le (by simp [GStamp.enc_len]))
theorem ds70_5 (x : GMsg) : (x.enc.drop 78).take 38 = x.cert.enc := by
  unfold GMsg.enc
  simp [List.drop_append, List.drop_eq_nil_of_le, GCommit.enc_len, GStamp.enc_len] <;> (rw [List.take_append_of_le_length (by simp [GCert.enc_len])]; exact List.take_of_length_le (by simp [GCert.enc_len]))
theorem ds70_6 (x : GMsg) : (x.enc.drop 116).take 38 = x.ack.enc := by
  unfold GMsg.enc
  simp [List.drop_append, List.drop_eq_nil_of_le, GCert.enc_len, GCommit.enc_len, GStamp.enc_len] <;> (rw [List.take_append_of_le_length (by simp [GAck.enc_len])]; exact List.take_of_length_le (by simp [GAck.enc_len]))
theorem lk70_7 (x : GMsg) : x.enc[154]? = some (.int .i64 x.epoch) := by
  simp [GMsg.enc, List.getElem?_append, GAck.enc_len, GCert.enc_len, GCommit.enc_len, GStamp.enc_len]
theorem lk70_8 (x : GMsg) : x.enc[155]? = some (.int .i64 x.round) := by
  simp [GMsg.enc, List.getElem?_append, GAck.enc_len, GCert.enc_len, GCommit.enc_len, GStamp.enc_len]
theorem lk70_9 (x : GMsg) : x.enc[156]? = some (.int .u64 x.time) := by
  simp [GMsg.enc, List.getElem?_append, GAck.enc_len, GCert.enc_len, GCommit.enc_len, GStamp.enc_len]
theorem ds70_10 (x : GMsg) : (x.enc.drop 157).take 6 = x.promise.enc := by
  unfold GMsg.enc
  simp [List.drop_append, List.drop_eq_nil_of_le, GAck.enc_len, GCert.enc_len, GCommit.enc_len, GStamp.enc_len] <;> (rw [List.take_append_of_le_length (by simp [GPromise.enc_len])]; exact List.take_of_length_le (by simp [GPromise.enc_len]))
theorem ds70_11 (x : GMsg) : (x.enc.drop 163).take 11 = x.proposal.enc := by
  unfold GMsg.enc
  simp [List.drop_append, List.drop_eq_nil_of_le, GAck.enc_len, GCert.enc_len, GCommit.enc_len, GPromise.enc_len, GStamp.enc_len] <;> (rw [List.take_append_of_le_length (by simp [GProposal.enc_len])]; exact List.take_of_length_le (by simp [GProposal.enc_len]))
theorem ds70_12 (x : GMsg) : (x.enc.drop 174).take 38 = x.vote.enc := by
  unfold GMsg.enc
  simp [List.drop_append, List.drop_eq_nil_of_le, GAck.enc_len, GCert.enc_len, GCommit.enc_len, GPromise.enc_len, GProposal.enc_len, GStamp.enc_len] <;> (rw [List.take_append_of_le_length (by simp [GVote.enc_len])]; exact List.take_of_length_le (by simp [GVote.enc_len]))
theorem lk70_13 (x : GMsg) : x.enc[212]? = some (.int .i64 x.index) := by
  simp [GMsg.enc, List.getElem?_append, GAck.enc_len, GCert.enc_len, GCommit.enc_len, GPromise.enc_len, GProposal.enc_len, GStamp.enc_len, GVote.enc_len]
theorem ds70_14 (x : GMsg) : (x.enc.drop 213).take 35 = x.entry.enc := by
  unfold GMsg.enc
  simp [List.drop_append, List.drop_eq_nil_of_le, GAck.enc_len, GCert.enc_len, GCommit.enc_len, GPromise.enc_len, GProposal.enc_len, GStamp.enc_len, GVote.enc_len] <;> (rw [List.take_append_of_le_length (by simp [GEntry.enc_len])]; exact List.take_of_length_le (by simp [GEntry.enc_len]))
theorem ds70_15 (x : GMsg) : (x.enc.drop 248).take 34 = x.opening.enc := by
  unfold GMsg.enc
  simp [List.drop_append, List.drop_eq_nil_of_le, GAck.enc_len, GCert.enc_len, GCommit.enc_len, GEntry.enc_len, GPromise.enc_len, GProposal.enc_len, GStamp.enc_len, GVote.enc_len] <;> (rw [List.take_append_of_le_length (by simp [GOpening.enc_len])]; exact List.take_of_length_le (by simp [GOpening.enc_len]))
theorem ds70_16 (x : GMsg) : (x.enc.drop 282).take 4 = x.deny.enc := by
  unfold GMsg.enc
  simp [List.drop_append, List.drop_eq_nil_of_le, GAck.enc_len, GCert.enc_len, GCommit.enc_len, GEntry.enc_len, GOpening.enc_len, GPromise.enc_len, GProposal.enc_len, GStamp.enc_len, GVote.enc_len] <;> (rw [List.take_append_of_le_length (by simp [GDeny.enc_len])]; exact List.take_of_length_le (by simp [GDeny.enc_len]))
theorem lk70_17 (x : GMsg) : x.enc[286]? = some (.string x.reply) := by
  simp [GMsg.enc, List.getElem?_append, GAck.enc_len, GCert.enc_len, GCommit.enc_len, GDeny.enc_len, GEntry.enc_len, GOpening.enc_len, GPromise.enc_len, GProposal.enc_len, GStamp.enc_len, GVote.enc_len]
theorem ds70_18 (x : GMsg) : (x.enc.drop 287).take 8 = x.decided.enc := by
  unfold GMsg.enc
  simp [List.drop_append, List.drop_eq_nil_of_le, GAck.enc_len, GCert.enc_len, GCommit.enc_len, GDeny.enc_len, GEntry.enc_len, GOpening.enc_len, GPromise.enc_len, GProposal.enc_len, GStamp.enc_len, GVote.enc_len] <;> (exact List.take_of_length_le (by simp [GDecided.enc_len]))
theorem zr70 : zeroT Tryz.prog 70 = some (.agg (GMsg.enc default).toArray) := by kernel_rfl
@[go_sem ↓ high] theorem al_GMsg (w : World) : (gAlloc 70).run Tryz.prog w = .ok (.pointer (some ⟨w.heap.size, 0, none⟩)) (w.alloc (.cells (GMsg.enc default).toArray 70)) := run_zero_alloc zr70 w
@[go_sem] theorem pc_GMsg (w : World) (n : Nat) (x z : GMsg) (hn : n = w.heap.size) : World.putCells (w.alloc (.cells (GMsg.enc z).toArray 70)) ⟨n, 0, none⟩ (GMsg.enc x) = w.alloc (.cells (GMsg.enc x).toArray 70) := putCells_top x z hn
theorem GMsg.at_kind {w : World} {a : Addr} {x : GMsg} (h : get? GMsg w a = some x) : w.cell? (a.add 0) = some (.int .i64 x.kind) := (get?_iff.1 h) _ _ (lk70_0 x)
theorem GMsg.at_from_ {w : World} {a : Addr} {x : GMsg} (h : get? GMsg w a = some x) : w.cell? (a.add 1) = some (.int .i64 x.from_) := (get?_iff.1 h) _ _ (lk70_1 x)
theorem GMsg.at_to {w : World} {a : Addr} {x : GMsg} (h : get? GMsg w a = some x) : w.cell? (a.add 2) = some (.int .i64 x.to) := (get?_iff.1 h) _ _ (lk70_2 x)
theorem GMsg.at_commit {w : World} {a : Addr} {x : GMsg} (h : get? GMsg w a = some x) : get? GCommit w (a.add 3) = some x.commit := by
  rw [get?_iff] at h ⊢
  refine h.sub 3 fun j v hv => ?_
  have hd := ds70_3 x
  have hj : j < 37 := by have := (List.getElem?_eq_some_iff.1 hv).1; rwa [Enc.len] at this
  show x.enc[3 + j]? = some v
  rw [← List.getElem?_drop, ← List.getElem?_take_of_lt hj, hd]; exact hv
theorem GMsg.at_stamp {w : World} {a : Addr} {x : GMsg} (h : get? GMsg w a = some x) : get? GStamp w (a.add 40) = some x.stamp := by
  rw [get?_iff] at h ⊢
  refine h.sub 40 fun j v hv => ?_
  have hd := ds70_4 x
  have hj : j < 38 := by have := (List.getElem?_eq_some_iff.1 hv).1; rwa [Enc.len] at this
  show x.enc[40 + j]? = some v
  rw [← List.getElem?_drop, ← List.getElem?_take_of_lt hj, hd]; exact hv
theorem GMsg.at_cert {w : World} {a : Addr} {x : GMsg} (h : get? GMsg w a = some x) : get? GCert w (a.add 78) = some x.cert := by
  rw [get?_iff] at h ⊢
  refine h.sub 78 fun j v hv => ?_
  have hd := ds70_5 x
  have hj : j < 38 := by have := (List.getElem?_eq_some_iff.1 hv).1; rwa [Enc.len] at this
  show x.enc[78 + j]? = some v
  rw [← List.getElem?_drop, ← List.getElem?_take_of_lt hj, hd]; exact hv
theorem GMsg.at_ack {w : World} {a : Addr} {x : GMsg} (h : get? GMsg w a = some x) : get? GAck w (a.add 116) = some x.ack := by
  rw [get?_iff] at h ⊢
  refine h.sub 116 fun j v hv => ?_
  have hd := ds70_6 x
  have hj : j < 38 := by have := (List.getElem?_eq_some_iff.1 hv).1; rwa [Enc.len] at this
  show x.enc[116 + j]? = some v
  rw [← List.getElem?_drop, ← List.getElem?_take_of_lt hj, hd]; exact hv
theorem GMsg.at_epoch {w : World} {a : Addr} {x : GMsg} (h : get? GMsg w a = some x) : w.cell? (a.add 154) = some (.int .i64 x.epoch) := (get?_iff.1 h) _ _ (lk70_7 x)
theorem GMsg.at_round {w : World} {a : Addr} {x : GMsg} (h : get? GMsg w a = some x) : w.cell? (a.add 155) = some (.int .i64 x.round) := (get?_iff.1 h) _ _ (lk70_8 x)
theorem GMsg.at_time {w : World} {a : Addr} {x : GMsg} (h : get? GMsg w a = some x) : w.cell? (a.add 156) = some (.int .u64 x.time) := (get?_iff.1 h) _ _ (lk70_9 x)
theorem GMsg.at_promise {w : World} {a : Addr} {x : GMsg} (h : get? GMsg w a = some x) : get? GPromise w (a.add 157) = some x.promise := by
  rw [get?_iff] at h ⊢
  refine h.sub 157 fun j v hv => ?_
  have hd := ds70_10 x
  have hj : j < 6 := by have := (List.getElem?_eq_some_iff.1 hv).1; rwa [Enc.len] at this
  show x.enc[157 + j]? = some v
  rw [← List.getElem?_drop, ← List.getElem?_take_of_lt hj, hd]; exact hv
theorem GMsg.at_proposal {w : World} {a : Addr} {x : GMsg} (h : get? GMsg w a = some x) : get? GProposal w (a.add 163) = some x.proposal := by
  rw [get?_iff] at h ⊢
  refine h.sub 163 fun j v hv => ?_
  have hd := ds70_11 x
  have hj : j < 11 := by have := (List.getElem?_eq_some_iff.1 hv).1; rwa [Enc.len] at this
  show x.enc[163 + j]? = some v
  rw [← List.getElem?_drop, ← List.getElem?_take_of_lt hj, hd]; exact hv
theorem GMsg.at_vote {w : World} {a : Addr} {x : GMsg} (h : get? GMsg w a = some x) : get? GVote w (a.add 174) = some x.vote := by
  rw [get?_iff] at h ⊢
  refine h.sub 174 fun j v hv => ?_
  have hd := ds70_12 x
  have hj : j < 38 := by have := (List.getElem?_eq_some_iff.1 hv).1; rwa [Enc.len] at this
  show x.enc[174 + j]? = some v
  rw [← List.getElem?_drop, ← List.getElem?_take_of_lt hj, hd]; exact hv
theorem GMsg.at_index {w : World} {a : Addr} {x : GMsg} (h : get? GMsg w a = some x) : w.cell? (a.add 212) = some (.int .i64 x.index) := (get?_iff.1 h) _ _ (lk70_13 x)
theorem GMsg.at_entry {w : World} {a : Addr} {x : GMsg} (h : get? GMsg w a = some x) : get? GEntry w (a.add 213) = some x.entry := by
  rw [get?_iff] at h ⊢
  refine h.sub 213 fun j v hv => ?_
  have hd := ds70_14 x
  have hj : j < 35 := by have := (List.getElem?_eq_some_iff.1 hv).1; rwa [Enc.len] at this
  show x.enc[213 + j]? = some v
  rw [← List.getElem?_drop, ← List.getElem?_take_of_lt hj, hd]; exact hv
theorem GMsg.at_opening {w : World} {a : Addr} {x : GMsg} (h : get? GMsg w a = some x) : get? GOpening w (a.add 248) = some x.opening := by
  rw [get?_iff] at h ⊢
  refine h.sub 248 fun j v hv => ?_
  have hd := ds70_15 x
  have hj : j < 34 := by have := (List.getElem?_eq_some_iff.1 hv).1; rwa [Enc.len] at this
  show x.enc[248 + j]? = some v
  rw [← List.getElem?_drop, ← List.getElem?_take_of_lt hj, hd]; exact hv
theorem GMsg.at_deny {w : World} {a : Addr} {x : GMsg} (h : get? GMsg w a = some x) : get? GDeny w (a.add 282) = some x.deny := by
  rw [get?_iff] at h ⊢
  refine h.sub 282 fun j v hv => ?_
  have hd := ds70_16 x
  have hj : j < 4 := by have := (List.getElem?_eq_some_iff.1 hv).1; rwa [Enc.len] at this
  show x.enc[282 + j]? = some v
  rw [← List.getElem?_drop, ← List.getElem?_take_of_lt hj, hd]; exact hv
theorem GMsg.at_reply {w : World} {a : Addr} {x : GMsg} (h : get? GMsg w a = some x) : w.cell? (a.add 286) = some (.string x.reply) := (get?_iff.1 h) _ _ (lk70_17 x)
theorem GMsg.at_decided {w : World} {a : Addr} {x : GMsg} (h : get? GMsg w a = some x) : get? GDecided w (a.add 287) = some x.decided := by
  rw [get?_iff] at h ⊢
  refine h.sub 287 fun j v hv => ?_
  have hd := ds70_18 x
  have hj : j < 8 := by have := (List.getElem?_eq_some_iff.1 hv).1; rwa [Enc.len] at this
  show x.enc[287 + j]? = some v
  rw [← List.getElem?_drop, ← List.getElem?_take_of_lt hj, hd]; exact hv
@[go_sem] theorem nl70_1 (x : GMsg) : x.enc[1]? = some (.int .i64 x.from_) := by
  have h := (GMsg.at_from_ (get?_new (w := (default : World)) 70 x))
  simp only [Addr.add_lit, Nat.zero_add, Nat.reduceAdd, World.cell?_alloc_new, List.getElem?_toArray] at h
  exact h
@[go_sem] theorem nl70_2 (x : GMsg) : x.enc[2]? = some (.int .i64 x.to) := by
  have h := (GMsg.at_to (get?_new (w := (default : World)) 70 x))
  simp only [Addr.add_lit, Nat.zero_add, Nat.reduceAdd, World.cell?_alloc_new, List.getElem?_toArray] at h
  exact h
@[go_sem] theorem nw70 (w : World) (n : Nat) (x : GMsg) (hn : n = w.heap.size) : get? GMsg (w.alloc (.cells (GMsg.enc x).toArray 70)) ⟨n, 0, none⟩ = some x := by
  subst hn; exact get?_new 70 x
theorem pl70 : ((Tryz.prog.fieldsOf 70).toList.mapM fun f => (Tryz.prog.info? f.type).map fun i => (f.offset, i.size)) = some [(0, 1), (1, 1), (2, 1), (3, 37), (40, 38), (78, 38), (116, 38), (154, 1), (155, 1), (156, 1), (157, 6), (163, 11), (174, 38), (212, 1), (213, 35), (248, 34), (282, 4), (286, 1), (287, 8)] := by kernel_rfl
theorem fs70_0 (x : GMsg) (v : Int) (rest : List (Nat × Value)) : Instr.fill (fun i => ([(0, 1), (1, 1), (2, 1), (3, 37), (40, 38), (78, 38), (116, 38), (154, 1), (155, 1), (156, 1), (157, 6), (163, 11), (174, 38), (212, 1), (213, 35), (248, 34), (282, 4), (286, 1), (287, 8)] : List (Nat × Nat))[i]?) x.enc.toArray ((0, (.int .i64 v)) :: rest) = Instr.fill (fun i => ([(0, 1), (1, 1), (2, 1), (3, 37), (40, 38), (78, 38), (116, 38), (154, 1), (155, 1), (156, 1), (157, 6), (163, 11), (174, 38), (212, 1), (213, 35), (248, 34), (282, 4), (286, 1), (287, 8)] : List (Nat × Nat))[i]?) ({ x with kind := v } : GMsg).enc.toArray rest := by
  have h := fill_seg [(0, 1), (1, 1), (2, 1), (3, 37), (40, 38), (78, 38), (116, 38), (154, 1), (155, 1), (156, 1), (157, 6), (163, 11), (174, 38), (212, 1), (213, 35), (248, 34), (282, 4), (286, 1), (287, 8)] 0 0 1 rfl (([] : List Value)) ([(.int .i64 x.kind)]) ([(.int .i64 x.from_)] ++ ([(.int .i64 x.to)] ++ (x.commit.enc ++ (x.stamp.enc ++ (x.cert.enc ++ (x.ack.enc ++ ([(.int .i64 x.epoch)] ++ ([(.int .i64 x.round)] ++ ([(.int .u64 x.time)] ++ (x.promise.enc ++ (x.proposal.enc ++ (x.vote.enc ++ ([(.int .i64 x.index)] ++ (x.entry.enc ++ (x.opening.enc ++ (x.deny.enc ++ ([(.string x.reply)] ++ (x.decided.enc ++ (([] : List Value)))))))))))))))))))) ([(.int .i64 v)]) (.int .i64 v) rest (rfl) (by simp [GAck.enc_len, GCert.enc_len, GCommit.enc_len, GDecided.enc_len, GDeny.enc_len, GEntry.enc_len, GOpening.enc_len, GPromise.enc_len, GProposal.enc_len, GStamp.enc_len, GVote.enc_len]) (by simp [GAck.enc_len, GCert.enc_len, GCommit.enc_len, GDecided.enc_len, GDeny.enc_len, GEntry.enc_len, GOpening.enc_len, GPromise.enc_len, GProposal.enc_len, GStamp.enc_len, GVote.enc_len]) (by simp [GAck.enc_len, GCert.enc_len, GCommit.enc_len, GDecided.enc_len, GDeny.enc_len, GEntry.enc_len, GOpening.enc_len, GPromise.enc_len, GProposal.enc_len, GStamp.enc_len, GVote.enc_len])
  have e1 : x.enc = (([] : List Value)) ++ ([(.int .i64 x.kind)] ++ ([(.int .i64 x.from_)] ++ ([(.int .i64 x.to)] ++ (x.commit.enc ++ (x.stamp.enc ++ (x.cert.enc ++ (x.ack.enc ++ ([(.int .i64 x.epoch)] ++ ([(.int .i64 x.round)] ++ ([(.int .u64 x.time)] ++ (x.promise.enc ++ (x.proposal.enc ++ (x.vote.enc ++ ([(.int .i64 x.index)] ++ (x.entry.enc ++ (x.opening.enc ++ (x.deny.enc ++ ([(.string x.reply)] ++ (x.decided.enc ++ (([] : List Value))))))))))))))))))))) := by simp only [GMsg.enc, List.nil_append, List.append_assoc, List.append_nil]
  have e2 : ({ x with kind := v } : GMsg).enc = (([] : List Value)) ++ ([(.int .i64 v)] ++ ([(.int .i64 x.from_)] ++ ([(.int .i64 x.to)] ++ (x.commit.enc ++ (x.stamp.enc ++ (x.cert.enc ++ (x.ack.enc ++ ([(.int .i64 x.epoch)] ++ ([(.int .i64 x.round)] ++ ([(.int .u64 x.time)] ++ (x.promise.enc ++ (x.proposal.enc ++ (x.vote.enc ++ ([(.int .i64 x.index)] ++ (x.entry.enc ++ (x.opening.enc ++ (x.deny.enc ++ ([(.string x.reply)] ++ (x.decided.enc ++ (([] : List Value))))))))))))))))))))) := by simp only [GMsg.enc, List.nil_append, List.append_assoc, List.append_nil]
  rw [e1, e2]; exact h
theorem fs70_1 (x : GMsg) (v : Int) (rest : List (Nat × Value)) : Instr.fill (fun i => ([(0, 1), (1, 1), (2, 1), (3, 37), (40, 38), (78, 38), (116, 38), (154, 1), (155, 1), (156, 1), (157, 6), (163, 11), (174, 38), (212, 1), (213, 35), (248, 34), (282, 4), (286, 1), (287, 8)] : List (Nat × Nat))[i]?) x.enc.toArray ((1, (.int .i64 v)) :: rest) = Instr.fill (fun i => ([(0, 1), (1, 1), (2, 1), (3, 37), (40, 38), (78, 38), (116, 38), (154, 1), (155, 1), (156, 1), (157, 6), (163, 11), (174, 38), (212, 1), (213, 35), (248, 34), (282, 4), (286, 1), (287, 8)] : List (Nat × Nat))[i]?) ({ x with from_ := v } : GMsg).enc.toArray rest := by
  have h := fill_seg [(0, 1), (1, 1), (2, 1), (3, 37), (40, 38), (78, 38), (116, 38), (154, 1), (155, 1), (156, 1), (157, 6), (163, 11), (174, 38), (212, 1), (213, 35), (248, 34), (282, 4), (286, 1), (287, 8)] 1 1 1 rfl (([] : List Value) ++ ([(.int .i64 x.kind)])) ([(.int .i64 x.from_)]) ([(.int .i64 x.to)] ++ (x.commit.enc ++ (x.stamp.enc ++ (x.cert.enc ++ (x.ack.enc ++ ([(.int .i64 x.epoch)] ++ ([(.int .i64 x.round)] ++ ([(.int .u64 x.time)] ++ (x.promise.enc ++ (x.proposal.enc ++ (x.vote.enc ++ ([(.int .i64 x.index)] ++ (x.entry.enc ++ (x.opening.enc ++ (x.deny.enc ++ ([(.string x.reply)] ++ (x.decided.enc ++ (([] : List Value))))))))))))))))))) ([(.int .i64 v)]) (.int .i64 v) rest (rfl) (by simp [GAck.enc_len, GCert.enc_len, GCommit.enc_len, GDecided.enc_len, GDeny.enc_len, GEntry.enc_len, GOpening.enc_len, GPromise.enc_len, GProposal.enc_len, GStamp.enc_len, GVote.enc_len]) (by simp [GAck.enc_len, GCert.enc_len, GCommit.enc_len, GDecided.enc_len, GDeny.enc_len, GEntry.enc_len, GOpening.enc_len, GPromise.enc_len, GProposal.enc_len, GStamp.enc_len, GVote.enc_len]) (by simp [GAck.enc_len, GCert.enc_len, GCommit.enc_len, GDecided.enc_len, GDeny.enc_len, GEntry.enc_len, GOpening.enc_len, GPromise.enc_len, GProposal.enc_len, GStamp.enc_len, GVote.enc_len])
  have e1 : x.enc = (([] : List Value) ++ ([(.int .i64 x.kind)])) ++ ([(.int .i64 x.from_)] ++ ([(.int .i64 x.to)] ++ (x.commit.enc ++ (x.stamp.enc ++ (x.cert.enc ++ (x.ack.enc ++ ([(.int .i64 x.epoch)] ++ ([(.int .i64 x.round)] ++ ([(.int .u64 x.time)] ++ (x.promise.enc ++ (x.proposal.enc ++ (x.vote.enc ++ ([(.int .i64 x.index)] ++ (x.entry.enc ++ (x.opening.enc ++ (x.deny.enc ++ ([(.string x.reply)] ++ (x.decided.enc ++ (([] : List Value)))))))))))))))))))) := by simp only [GMsg.enc, List.nil_append, List.append_assoc, List.append_nil]
  have e2 : ({ x with from_ := v } : GMsg).enc = (([] : List Value) ++ ([(.int .i64 x.kind)])) ++ ([(.int .i64 v)] ++ ([(.int .i64 x.to)] ++ (x.commit.enc ++ (x.stamp.enc ++ (x.cert.enc ++ (x.ack.enc ++ ([(.int .i64 x.epoch)] ++ ([(.int .i64 x.round)] ++ ([(.int .u64 x.time)] ++ (x.promise.enc ++ (x.proposal.enc ++ (x.vote.enc ++ ([(.int .i64 x.index)] ++ (x.entry.enc ++ (x.opening.enc ++ (x.deny.enc ++ ([(.string x.reply)] ++ (x.decided.enc ++ (([] : List Value)))))))))))))))))))) := by simp only [GMsg.enc, List.nil_append, List.append_assoc, List.append_nil]
  rw [e1, e2]; exact h
theorem fs70_2 (x : GMsg) (v : Int) (rest : List (Nat × Value)) : Instr.fill (fun i => ([(0, 1), (1, 1), (2, 1), (3, 37), (40, 38), (78, 38), (116, 38), (154, 1), (155, 1), (156, 1), (157, 6), (163, 11), (174, 38), (212, 1), (213, 35), (248, 34), (282, 4), (286, 1), (287, 8)] : List (Nat × Nat))[i]?) x.enc.toArray ((2, (.int .i64 v)) :: rest) = Instr.fill (fun i => ([(0, 1), (1, 1), (2, 1), (3, 37), (40, 38), (78, 38), (116, 38), (154, 1), (155, 1), (156, 1), (157, 6), (163, 11), (174, 38), (212, 1), (213, 35), (248, 34), (282, 4), (286, 1), (287, 8)] : List (Nat × Nat))[i]?) ({ x with to := v } : GMsg).enc.toArray rest := by
  have h := fill_seg [(0, 1), (1, 1), (2, 1), (3, 37), (40, 38), (78, 38), (116, 38), (154, 1), (155, 1), (156, 1), (157, 6), (163, 11), (174, 38), (212, 1), (213, 35), (248, 34), (282, 4), (286, 1), (287, 8)] 2 2 1 rfl (([] : List Value) ++ ([(.int .i64 x.kind)] ++ ([(.int .i64 x.from_)]))) ([(.int .i64 x.to)]) (x.commit.enc ++ (x.stamp.enc ++ (x.cert.enc ++ (x.ack.enc ++ ([(.int .i64 x.epoch)] ++ ([(.int .i64 x.round)] ++ ([(.int .u64 x.time)] ++ (x.promise.enc ++ (x.proposal.enc ++ (x.vote.enc ++ ([(.int .i64 x.index)] ++ (x.entry.enc ++ (x.opening.enc ++ (x.deny.enc ++ ([(.string x.reply)] ++ (x.decided.enc ++ (([] : List Value)))))))))))))))))) ([(.int .i64 v)]) (.int .i64 v) rest (rfl) (by simp [GAck.enc_len, GCert.enc_len, GCommit.enc_len, GDecided.enc_len, GDeny.enc_len, GEntry.enc_len, GOpening.enc_len, GPromise.enc_len, GProposal.enc_len, GStamp.enc_len, GVote.enc_len]) (by simp [GAck.enc_len, GCert.enc_len, GCommit.enc_len, GDecided.enc_len, GDeny.enc_len, GEntry.enc_len, GOpening.enc_len, GPromise.enc_len, GProposal.enc_len, GStamp.enc_len, GVote.enc_len]) (by simp [GAck.enc_len, GCert.enc_len, GCommit.enc_len, GDecided.enc_len, GDeny.enc_len, GEntry.enc_len, GOpening.enc_len, GPromise.enc_len, GProposal.enc_len, GStamp.enc_len, GVote.enc_len])
  have e1 : x.enc = (([] : List Value) ++ ([(.int .i64 x.kind)] ++ ([(.int .i64 x.from_)]))) ++ ([(.int .i64 x.to)] ++ (x.commit.enc ++ (x.stamp.enc ++ (x.cert.enc ++ (x.ack.enc ++ ([(.int .i64 x.epoch)] ++ ([(.int .i64 x.round)] ++ ([(.int .u64 x.time)] ++ (x.promise.enc ++ (x.proposal.enc ++ (x.vote.enc ++ ([(.int .i64 x.index)] ++ (x.entry.enc ++ (x.opening.enc ++ (x.deny.enc ++ ([(.string x.reply)] ++ (x.decided.enc ++ (([] : List Value))))))))))))))))))) := by simp only [GMsg.enc, List.nil_append, List.append_assoc, List.append_nil]
  have e2 : ({ x with to := v } : GMsg).enc = (([] : List Value) ++ ([(.int .i64 x.kind)] ++ ([(.int .i64 x.from_)]))) ++ ([(.int .i64 v)] ++ (x.commit.enc ++ (x.stamp.enc ++ (x.cert.enc ++ (x.ack.enc ++ ([(.int .i64 x.epoch)] ++ ([(.int .i64 x.round)] ++ ([(.int .u64 x.time)] ++ (x.promise.enc ++ (x.proposal.enc ++ (x.vote.enc ++ ([(.int .i64 x.index)] ++ (x.entry.enc ++ (x.opening.enc ++ (x.deny.enc ++ ([(.string x.reply)] ++ (x.decided.enc ++ (([] : List Value))))))))))))))))))) := by simp only [GMsg.enc, List.nil_append, List.append_assoc, List.append_nil]
  rw [e1, e2]; exact h
theorem fs70_3 (x : GMsg) (v : GCommit) (rest : List (Nat × Value)) : Instr.fill (fun i => ([(0, 1), (1, 1), (2, 1), (3, 37), (40, 38), (78, 38), (116, 38), (154, 1), (155, 1), (156, 1), (157, 6), (163, 11), (174, 38), (212, 1), (213, 35), (248, 34), (282, 4), (286, 1), (287, 8)] : List (Nat × Nat))[i]?) x.enc.toArray ((3, (v.val)) :: rest) = Instr.fill (fun i => ([(0, 1), (1, 1), (2, 1), (3, 37), (40, 38), (78, 38), (116, 38), (154, 1), (155, 1), (156, 1), (157, 6), (163, 11), (174, 38), (212, 1), (213, 35), (248, 34), (282, 4), (286, 1), (287, 8)] : List (Nat × Nat))[i]?) ({ x with commit := v } : GMsg).enc.toArray rest := by
  have h := fill_seg [(0, 1), (1, 1), (2, 1), (3, 37), (40, 38), (78, 38), (116, 38), (154, 1), (155, 1), (156, 1), (157, 6), (163, 11), (174, 38), (212, 1), (213, 35), (248, 34), (282, 4), (286, 1), (287, 8)] 3 3 37 rfl (([] : List Value) ++ ([(.int .i64 x.kind)] ++ ([(.int .i64 x.from_)] ++ ([(.int .i64 x.to)])))) (x.commit.enc) (x.stamp.enc ++ (x.cert.enc ++ (x.ack.enc ++ ([(.int .i64 x.epoch)] ++ ([(.int .i64 x.round)] ++ ([(.int .u64 x.time)] ++ (x.promise.enc ++ (x.proposal.enc ++ (x.vote.enc ++ ([(.int .i64 x.index)] ++ (x.entry.enc ++ (x.opening.enc ++ (x.deny.enc ++ ([(.string x.reply)] ++ (x.decided.enc ++ (([] : List Value))))))))))))))))) (v.enc) (v.val) rest (by rw [GCommit.val_eq]; rfl) (by simp [GAck.enc_len, GCert.enc_len, GCommit.enc_len, GDecided.enc_len, GDeny.enc_len, GEntry.enc_len, GOpening.enc_len, GPromise.enc_len, GProposal.enc_len, GStamp.enc_len, GVote.enc_len]) (by simp [GAck.enc_len, GCert.enc_len, GCommit.enc_len, GDecided.enc_len, GDeny.enc_len, GEntry.enc_len, GOpening.enc_len, GPromise.enc_len, GProposal.enc_len, GStamp.enc_len, GVote.enc_len]) (by simp [GAck.enc_len, GCert.enc_len, GCommit.enc_len, GDecided.enc_len, GDeny.enc_len, GEntry.enc_len, GOpening.enc_len, GPromise.enc_len, GProposal.enc_len, GStamp.enc_len, GVote.enc_len])
  have e1 : x.enc = (([] : List Value) ++ ([(.int .i64 x.kind)] ++ ([(.int .i64 x.from_)] ++ ([(.int .i64 x.to)])))) ++ (x.commit.enc ++ (x.stamp.enc ++ (x.cert.enc ++ (x.ack.enc ++ ([(.int .i64 x.epoch)] ++ ([(.int .i64 x.round)] ++ ([(.int .u64 x.time)] ++ (x.promise.enc ++ (x.proposal.enc ++ (x.vote.enc ++ ([(.int .i64 x.index)] ++ (x.entry.enc ++ (x.opening.enc ++ (x.deny.enc ++ ([(.string x.reply)] ++ (x.decided.enc ++ (([] : List Value)))))))))))))))))) := by simp only [GMsg.enc, List.nil_append, List.append_assoc, List.append_nil]
  have e2 : ({ x with commit := v } : GMsg).enc = (([] : List Value) ++ ([(.int .i64 x.kind)] ++ ([(.int .i64 x.from_)] ++ ([(.int .i64 x.to)])))) ++ (v.enc ++ (x.stamp.enc ++ (x.cert.enc ++ (x.ack.enc ++ ([(.int .i64 x.epoch)] ++ ([(.int .i64 x.round)] ++ ([(.int .u64 x.time)] ++ (x.promise.enc ++ (x.proposal.enc ++ (x.vote.enc ++ ([(.int .i64 x.index)] ++ (x.entry.enc ++ (x.opening.enc ++ (x.deny.enc ++ ([(.string x.reply)] ++ (x.decided.enc ++ (([] : List Value)))))))))))))))))) := by simp only [GMsg.enc, List.nil_append, List.append_assoc, List.append_nil]
  rw [e1, e2]; exact h
theorem fs70_4 (x : GMsg) (v : GStamp) (rest : List (Nat × Value)) : Instr.fill (fun i => ([(0, 1), (1, 1), (2, 1), (3, 37), (40, 38), (78, 38), (116, 38), (154, 1), (155, 1), (156, 1), (157, 6), (163, 11), (174, 38), (212, 1), (213, 35), (248, 34), (282, 4), (286, 1), (287, 8)] : List (Nat × Nat))[i]?) x.enc.toArray ((4, (v.val)) :: rest) = Instr.fill (fun i => ([(0, 1), (1, 1), (2, 1), (3, 37), (40, 38), (78, 38), (116, 38), (154, 1), (155, 1), (156, 1), (157, 6), (163, 11), (174, 38), (212, 1), (213, 35), (248, 34), (282, 4), (286, 1), (287, 8)] : List (Nat × Nat))[i]?) ({ x with stamp := v } : GMsg).enc.toArray rest := by
  have h := fill_seg [(0, 1), (1, 1), (2, 1), (3, 37), (40, 38), (78, 38), (116, 38), (154, 1), (155, 1), (156, 1), (157, 6), (163, 11), (174, 38), (212, 1), (213, 35), (248, 34), (282, 4), (286, 1), (287, 8)] 4 40 38 rfl (([] : List Value) ++ ([(.int .i64 x.kind)] ++ ([(.int .i64 x.from_)] ++ ([(.int .i64 x.to)] ++ (x.commit.enc))))) (x.stamp.enc) (x.cert.enc ++ (x.ack.enc ++ ([(.int .i64 x.epoch)] ++ ([(.int .i64 x.round)] ++ ([(.int .u64 x.time)] ++ (x.promise.enc ++ (x.proposal.enc ++ (x.vote.enc ++ ([(.int .i64 x.index)] ++ (x.entry.enc ++ (x.opening.enc ++ (x.deny.enc ++ ([(.string x.reply)] ++ (x.decided.enc ++ (([] : List Value)))))))))))))))) (v.enc) (v.val) rest (by rw [GStamp.val_eq]; rfl) (by simp [GAck.enc_len, GCert.enc_len, GCommit.enc_len, GDecided.enc_len, GDeny.enc_len, GEntry.enc_len, GOpening.enc_len, GPromise.enc_len, GProposal.enc_len, GStamp.enc_len, GVote.enc_len]) (by simp [GAck.enc_len, GCert.enc_len, GCommit.enc_len, GDecided.enc_len, GDeny.enc_len, GEntry.enc_len, GOpening.enc_len, GPromise.enc_len, GProposal.enc_len, GStamp.enc_len, GVote.enc_len]) (by simp [GAck.enc_len, GCert.enc_len, GCommit.enc_len, GDecided.enc_len, GDeny.enc_len, GEntry.enc_len, GOpening.enc_len, GPromise.enc_len, GProposal.enc_len, GStamp.enc_len, GVote.enc_len])
  have e1 : x.enc = (([] : List Value) ++ ([(.int .i64 x.kind)] ++ ([(.int .i64 x.from_)] ++ ([(.int .i64 x.to)] ++ (x.commit.enc))))) ++ (x.stamp.enc ++ (x.cert.enc ++ (x.ack.enc ++ ([(.int .i64 x.epoch)] ++ ([(.int .i64 x.round)] ++ ([(.int .u64 x.time)] ++ (x.promise.enc ++ (x.proposal.enc ++ (x.vote.enc ++ ([(.int .i64 x.index)] ++ (x.entry.enc ++ (x.opening.enc ++ (x.deny.enc ++ ([(.string x.reply)] ++ (x.decided.enc ++ (([] : List Value))))))))))))))))) := by simp only [GMsg.enc, List.nil_append, List.append_assoc, List.append_nil]
  have e2 : ({ x with stamp := v } : GMsg).enc = (([] : List Value) ++ ([(.int .i64 x.kind)] ++ ([(.int .i64 x.from_)] ++ ([(.int .i64 x.to)] ++ (x.commit.enc))))) ++ (v.enc ++ (x.cert.enc ++ (x.ack.enc ++ ([(.int .i64 x.epoch)] ++ ([(.int .i64 x.round)] ++ ([(.int .u64 x.time)] ++ (x.promise.enc ++ (x.proposal.enc ++ (x.vote.enc ++ ([(.int .i64 x.index)] ++ (x.entry.enc ++ (x.opening.enc ++ (x.deny.enc ++ ([(.string x.reply)] ++ (x.decided.enc ++ (([] : List Value))))))))))))))))) := by simp only [GMsg.enc, List.nil_append, List.append_assoc, List.append_nil]
  rw [e1, e2]; exact h
theorem fs70_7 (x : GMsg) (v : Int) (rest : List (Nat × Value)) : Instr.fill (fun i => ([(0, 1), (1, 1), (2, 1), (3, 37), (40, 38), (78, 38), (116, 38), (154, 1), (155, 1), (156, 1), (157, 6), (163, 11), (174, 38), (212, 1), (213, 35), (248, 34), (282, 4), (286, 1), (287, 8)] : List (Nat × Nat))[i]?) x.enc.toArray ((7, (.int .i64 v)) :: rest) = Instr.fill (fun i => ([(0, 1), (1, 1), (2, 1), (3, 37), (40, 38), (78, 38), (116, 38), (154, 1), (155, 1), (156, 1), (157, 6), (163, 11), (174, 38), (212, 1), (213, 35), (248, 34), (282, 4), (286, 1), (287, 8)] : List (Nat × Nat))[i]?) ({ x with epoch := v } : GMsg).enc.toArray rest := by
  have h := fill_seg [(0, 1), (1, 1), (2, 1), (3, 37), (40, 38), (78, 38), (116, 38), (154, 1), (155, 1), (156, 1), (157, 6), (163, 11), (174, 38), (212, 1), (213, 35), (248, 34), (282, 4), (286, 1), (287, 8)] 7 154 1 rfl (([] : List Value) ++ ([(.int .i64 x.kind)] ++ ([(.int .i64 x.from_)] ++ ([(.int .i64 x.to)] ++ (x.commit.enc ++ (x.stamp.enc ++ (x.cert.enc ++ (x.ack.enc)))))))) ([(.int .i64 x.epoch)]) ([(.int .i64 x.round)] ++ ([(.int .u64 x.time)] ++ (x.promise.enc ++ (x.proposal.enc ++ (x.vote.enc ++ ([(.int .i64 x.index)] ++ (x.entry.enc ++ (x.opening.enc ++ (x.deny.enc ++ ([(.string x.reply)] ++ (x.decided.enc ++ (([] : List Value))))))))))))) ([(.int .i64 v)]) (.int .i64 v) rest (rfl) (by simp [GAck.enc_len, GCert.enc_len, GCommit.enc_len, GDecided.enc_len, GDeny.enc_len, GEntry.enc_len, GOpening.enc_len, GPromise.enc_len, GProposal.enc_len, GStamp.enc_len, GVote.enc_len]) (by simp [GAck.enc_len, GCert.enc_len, GCommit.enc_len, GDecided.enc_len, GDeny.enc_len, GEntry.enc_len, GOpening.enc_len, GPromise.enc_len, GProposal.enc_len, GStamp.enc_len, GVote.enc_len]) (by simp [GAck.enc_len, GCert.enc_len, GCommit.enc_len, GDecided.enc_len, GDeny.enc_len, GEntry.enc_len, GOpening.enc_len, GPromise.enc_len, GProposal.enc_len, GStamp.enc_len, GVote.enc_len])
  have e1 : x.enc = (([] : List Value) ++ ([(.int .i64 x.kind)] ++ ([(.int .i64 x.from_)] ++ ([(.int .i64 x.to)] ++ (x.commit.enc ++ (x.stamp.enc ++ (x.cert.enc ++ (x.ack.enc)))))))) ++ ([(.int .i64 x.epoch)] ++ ([(.int .i64 x.round)] ++ ([(.int .u64 x.time)] ++ (x.promise.enc ++ (x.proposal.enc ++ (x.vote.enc ++ ([(.int .i64 x.index)] ++ (x.entry.enc ++ (x.opening.enc ++ (x.deny.enc ++ ([(.string x.reply)] ++ (x.decided.enc ++ (([] : List Value)))))))))))))) := by simp only [GMsg.enc, List.nil_append, List.append_assoc, List.append_nil]
  have e2 : ({ x with epoch := v } : GMsg).enc = (([] : List Value) ++ ([(.int .i64 x.kind)] ++ ([(.int .i64 x.from_)] ++ ([(.int .i64 x.to)] ++ (x.commit.enc ++ (x.stamp.enc ++ (x.cert.enc ++ (x.ack.enc)))))))) ++ ([(.int .i64 v)] ++ ([(.int .i64 x.round)] ++ ([(.int .u64 x.time)] ++ (x.promise.enc ++ (x.proposal.enc ++ (x.vote.enc ++ ([(.int .i64 x.index)] ++ (x.entry.enc ++ (x.opening.enc ++ (x.deny.enc ++ ([(.string x.reply)] ++ (x.decided.enc ++ (([] : List Value)))))))))))))) := by simp only [GMsg.enc, List.nil_append, List.append_assoc, List.append_nil]
  rw [e1, e2]; exact h
theorem fs70_8 (x : GMsg) (v : Int) (rest : List (Nat × Value)) : Instr.fill (fun i => ([(0, 1), (1, 1), (2, 1), (3, 37), (40, 38), (78, 38), (116, 38), (154, 1), (155, 1), (156, 1), (157, 6), (163, 11), (174, 38), (212, 1), (213, 35), (248, 34), (282, 4), (286, 1), (287, 8)] : List (Nat × Nat))[i]?) x.enc.toArray ((8, (.int .i64 v)) :: rest) = Instr.fill (fun i => ([(0, 1), (1, 1), (2, 1), (3, 37), (40, 38), (78, 38), (116, 38), (154, 1), (155, 1), (156, 1), (157, 6), (163, 11), (174, 38), (212, 1), (213, 35), (248, 34), (282, 4), (286, 1), (287, 8)] : List (Nat × Nat))[i]?) ({ x with round := v } : GMsg).enc.toArray rest := by
  have h := fill_seg [(0, 1), (1, 1), (2, 1), (3, 37), (40, 38), (78, 38), (116, 38), (154, 1), (155, 1), (156, 1), (157, 6), (163, 11), (174, 38), (212, 1), (213, 35), (248, 34), (282, 4), (286, 1), (287, 8)] 8 155 1 rfl (([] : List Value) ++ ([(.int .i64 x.kind)] ++ ([(.int .i64 x.from_)] ++ ([(.int .i64 x.to)] ++ (x.commit.enc ++ (x.stamp.enc ++ (x.cert.enc ++ (x.ack.enc ++ ([(.int .i64 x.epoch)]))))))))) ([(.int .i64 x.round)]) ([(.int .u64 x.time)] ++ (x.promise.enc ++ (x.proposal.enc ++ (x.vote.enc ++ ([(.int .i64 x.index)] ++ (x.entry.enc ++ (x.opening.enc ++ (x.deny.enc ++ ([(.string x.reply)] ++ (x.decided.enc ++ (([] : List Value)))))))))))) ([(.int .i64 v)]) (.int .i64 v) rest (rfl) (by simp [GAck.enc_len, GCert.enc_len, GCommit.enc_len, GDecided.enc_len, GDeny.enc_len, GEntry.enc_len, GOpening.enc_len, GPromise.enc_len, GProposal.enc_len, GStamp.enc_len, GVote.enc_len]) (by simp [GAck.enc_len, GCert.enc_len, GCommit.enc_len, GDecided.enc_len, GDeny.enc_len, GEntry.enc_len, GOpening.enc_len, GPromise.enc_len, GProposal.enc_len, GStamp.enc_len, GVote.enc_len]) (by simp [GAck.enc_len, GCert.enc_len, GCommit.enc_len, GDecided.enc_len, GDeny.enc_len, GEntry.enc_len, GOpening.enc_len, GPromise.enc_len, GProposal.enc_len, GStamp.enc_len, GVote.enc_len])
  have e1 : x.enc = (([] : List Value) ++ ([(.int .i64 x.kind)] ++ ([(.int .i64 x.from_)] ++ ([(.int .i64 x.to)] ++ (x.commit.enc ++ (x.stamp.enc ++ (x.cert.enc ++ (x.ack.enc ++ ([(.int .i64 x.epoch)]))))))))) ++ ([(.int .i64 x.round)] ++ ([(.int .u64 x.time)] ++ (x.promise.enc ++ (x.proposal.enc ++ (x.vote.enc ++ ([(.int .i64 x.index)] ++ (x.entry.enc ++ (x.opening.enc ++ (x.deny.enc ++ ([(.string x.reply)] ++ (x.decided.enc ++ (([] : List Value))))))))))))) := by simp only [GMsg.enc, List.nil_append, List.append_assoc, List.append_nil]
  have e2 : ({ x with round := v } : GMsg).enc = (([] : List Value) ++ ([(.int .i64 x.kind)] ++ ([(.int .i64 x.from_)] ++ ([(.int .i64 x.to)] ++ (x.commit.enc ++ (x.stamp.enc ++ (x.cert.enc ++ (x.ack.enc ++ ([(.int .i64 x.epoch)]))))))))) ++ ([(.int .i64 v)] ++ ([(.int .u64 x.time)] ++ (x.promise.enc ++ (x.proposal.enc ++ (x.vote.enc ++ ([(.int .i64 x.index)] ++ (x.entry.enc ++ (x.opening.enc ++ (x.deny.enc ++ ([(.string x.reply)] ++ (x.decided.enc ++ (([] : List Value))))))))))))) := by simp only [GMsg.enc, List.nil_append, List.append_assoc, List.append_nil]
  rw [e1, e2]; exact h
theorem fs70_9 (x : GMsg) (v : Int) (rest : List (Nat × Value)) : Instr.fill (fun i => ([(0, 1), (1, 1), (2, 1), (3, 37), (40, 38), (78, 38), (116, 38), (154, 1), (155, 1), (156, 1), (157, 6), (163, 11), (174, 38), (212, 1), (213, 35), (248, 34), (282, 4), (286, 1), (287, 8)] : List (Nat × Nat))[i]?) x.enc.toArray ((9, (.int .u64 v)) :: rest) = Instr.fill (fun i => ([(0, 1), (1, 1), (2, 1), (3, 37), (40, 38), (78, 38), (116, 38), (154, 1), (155, 1), (156, 1), (157, 6), (163, 11), (174, 38), (212, 1), (213, 35), (248, 34), (282, 4), (286, 1), (287, 8)] : List (Nat × Nat))[i]?) ({ x with time := v } : GMsg).enc.toArray rest := by
  have h := fill_seg [(0, 1), (1, 1), (2, 1), (3, 37), (40, 38), (78, 38), (116, 38), (154, 1), (155, 1), (156, 1), (157, 6), (163, 11), (174, 38), (212, 1), (213, 35), (248, 34), (282, 4), (286, 1), (287, 8)] 9 156 1 rfl (([] : List Value) ++ ([(.int .i64 x.kind)] ++ ([(.int .i64 x.from_)] ++ ([(.int .i64 x.to)] ++ (x.commit.enc ++ (x.stamp.enc ++ (x.cert.enc ++ (x.ack.enc ++ ([(.int .i64 x.epoch)] ++ ([(.int .i64 x.round)])))))))))) ([(.int .u64 x.time)]) (x.promise.enc ++ (x.proposal.enc ++ (x.vote.enc ++ ([(.int .i64 x.index)] ++ (x.entry.enc ++ (x.opening.enc ++ (x.deny.enc ++ ([(.string x.reply)] ++ (x.decided.enc ++ (([] : List Value))))))))))) ([(.int .u64 v)]) (.int .u64 v) rest (rfl) (by simp [GAck.enc_len, GCert.enc_len, GCommit.enc_len, GDecided.enc_len, GDeny.enc_len, GEntry.enc_len, GOpening.enc_len, GPromise.enc_len, GProposal.enc_len, GStamp.enc_len, GVote.enc_len]) (by simp [GAck.enc_len, GCert.enc_len, GCommit.enc_len, GDecided.enc_len, GDeny.enc_len, GEntry.enc_len, GOpening.enc_len, GPromise.enc_len, GProposal.enc_len, GStamp.enc_len, GVote.enc_len]) (by simp [GAck.enc_len, GCert.enc_len, GCommit.enc_len, GDecided.enc_len, GDeny.enc_len, GEntry.enc_len, GOpening.enc_len, GPromise.enc_len, GProposal.enc_len, GStamp.enc_len, GVote.enc_len])
  have e1 : x.enc = (([] : List Value) ++ ([(.int .i64 x.kind)] ++ ([(.int .i64 x.from_)] ++ ([(.int .i64 x.to)] ++ (x.commit.enc ++ (x.stamp.enc ++ (x.cert.enc ++ (x.ack.enc ++ ([(.int .i64 x.epoch)] ++ ([(.int .i64 x.round)])))))))))) ++ ([(.int .u64 x.time)] ++ (x.promise.enc ++ (x.proposal.enc ++ (x.vote.enc ++ ([(.int .i64 x.index)] ++ (x.entry.enc ++ (x.opening.enc ++ (x.deny.enc ++ ([(.string x.reply)] ++ (x.decided.enc ++ (([] : List Value)))))))))))) := by simp only [GMsg.enc, List.nil_append, List.append_assoc, List.append_nil]
  have e2 : ({ x with time := v } : GMsg).enc = (([] : List Value) ++ ([(.int .i64 x.kind)] ++ ([(.int .i64 x.from_)] ++ ([(.int .i64 x.to)] ++ (x.commit.enc ++ (x.stamp.enc ++ (x.cert.enc ++ (x.ack.enc ++ ([(.int .i64 x.epoch)] ++ ([(.int .i64 x.round)])))))))))) ++ ([(.int .u64 v)] ++ (x.promise.enc ++ (x.proposal.enc ++ (x.vote.enc ++ ([(.int .i64 x.index)] ++ (x.entry.enc ++ (x.opening.enc ++ (x.deny.enc ++ ([(.string x.reply)] ++ (x.decided.enc ++ (([] : List Value)))))))))))) := by simp only [GMsg.enc, List.nil_append, List.append_assoc, List.append_nil]
  rw [e1, e2]; exact h
@[go_sem ↓ high] theorem xd_GMsg (ρ : Operand → Value) (dst : Option Tmp) (ps : Array (Nat × Operand)) (ty : TypeId) (pos : String) (after : Array Edge) (guard : Option (Nat × Bool)) : execOp ρ { dst, op := .build 70 ps, type := ty, pos, after, guard } = (do pure (.value (← gBuild 70 (ps.map fun (i, x) => (i, ρ x))))) := ex_build ..
@[go_sem ↓ high] theorem bd70_2 (w : World) (v0 : Int) (v1 : Int) (v2 : Int) (v3 : GCommit) : (gBuild 70 #[(0, (.int .i64 v0)), (1, (.int .i64 v1)), (2, (.int .i64 v2)), (3, (v3.val))]).run Tryz.prog w = .ok (GMsg.val ⟨v0, v1, v2, v3, default, default, default, 0, 0, 0, default, default, default, 0, default, default, default, ByteArray.empty, default⟩) w := by
  rw [GMsg.val_eq]
  refine run_gBuild_of uu70 zr70 pl70 ?_ w
  show Instr.fill _ (GMsg.enc default).toArray [(0, (.int .i64 v0)), (1, (.int .i64 v1)), (2, (.int .i64 v2)), (3, (v3.val))] = _
  rw [fs70_0, fs70_1, fs70_2, fs70_3]; rfl
@[go_sem ↓ high] theorem bd70_6 (w : World) (v0 : Int) (v1 : Int) (v2 : Int) : (gBuild 70 #[(0, (.int .i64 v0)), (1, (.int .i64 v1)), (2, (.int .i64 v2))]).run Tryz.prog w = .ok (GMsg.val ⟨v0, v1, v2, default, default, default, default, 0, 0, 0, default, default, default, 0, default, default, default, ByteArray.empty, default⟩) w := by
  rw [GMsg.val_eq]
  refine run_gBuild_of uu70 zr70 pl70 ?_ w
  show Instr.fill _ (GMsg.enc default).toArray [(0, (.int .i64 v0)), (1, (.int .i64 v1)), (2, (.int .i64 v2))] = _
  rw [fs70_0, fs70_1, fs70_2]; rfl
@[go_sem ↓ high] theorem bd70_10 (w : World) (v0 : Int) (v4 : GStamp) : (gBuild 70 #[(0, (.int .i64 v0)), (4, (v4.val))]).run Tryz.prog w = .ok (GMsg.val ⟨v0, 0, 0, default, v4, default, default, 0, 0, 0, default, default, default, 0, default, default, default, ByteArray.empty, default⟩) w := by
  rw [GMsg.val_eq]
  refine run_gBuild_of uu70 zr70 pl70 ?_ w
  show Instr.fill _ (GMsg.enc default).toArray [(0, (.int .i64 v0)), (4, (v4.val))] = _
  rw [fs70_0, fs70_4]; rfl
@[go_sem ↓ high] theorem bd70_13 (w : World) (v0 : Int) (v7 : Int) (v8 : Int) (v9 : Int) : (gBuild 70 #[(0, (.int .i64 v0)), (7, (.int .i64 v7)), (8, (.int .i64 v8)), (9, (.int .u64 v9))]).run Tryz.prog w = .ok (GMsg.val ⟨v0, 0, 0, default, default, default, default, v7, v8, v9, default, default, default, 0, default, default, default, ByteArray.empty, default⟩) w := by
  rw [GMsg.val_eq]
  refine run_gBuild_of uu70 zr70 pl70 ?_ w
  show Instr.fill _ (GMsg.enc default).toArray [(0, (.int .i64 v0)), (7, (.int .i64 v7)), (8, (.int .i64 v8)), (9, (.int .u64 v9))] = _
  rw [fs70_0, fs70_7, fs70_8, fs70_9]; rfl
/-! ### []api.Msg -/
theorem ei30 : ElemI Tryz.prog 30 70 GMsg 960 := ⟨by kernel_rfl, by kernel_rfl⟩
@[go_sem ↓ high] theorem xg_30 (ρ : Operand → Value) (dst : Option Tmp) (ps : Array (Nat × Operand)) (ty : TypeId) (pos : String) (after : Array Edge) (guard : Option (Nat × Bool)) : execOp ρ { dst, op := .buildSlice 30 1 ps, type := ty, pos, after, guard } = (do pure (.value (← gBuildSlice 30 1 (ps.map fun (i, x) => (i, ρ x))))) := ex_buildSlice ..
@[go_sem ↓ high] theorem bs_30 (w : World) (x : GMsg) : (gBuildSlice 30 1 #[(0, GMsg.val x)]).run Tryz.prog w = .ok (.slice (some ⟨w.heap.size, 0, none⟩) 1 1) (w.alloc (.cells (GMsg.enc x).toArray 70)) := by
  rw [GMsg.val_eq]; exact run_buildSlice_one ei30 (by decide) x w
/-! ### []api.Vote -/
end Go.Proofs.YtfhhcgldikmejaaGreatDoor
