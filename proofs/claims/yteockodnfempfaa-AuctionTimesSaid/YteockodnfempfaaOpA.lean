/- What the arguments of this seat read as. Conditions: those named in each theorem. -/
import Derived.Test.YteockodnfempfaaOp
namespace Go.Proofs.Yteockodnfempfaa
open Go Go.RowKit Go.Gv

theorem cz22 : Try.prog.cellsOf 22 = 1 := by kernel_rfl
theorem cz30 : Try.prog.cellsOf 30 = 35 := by kernel_rfl
theorem cz25 : Try.prog.cellsOf 25 = 2 := by kernel_rfl
theorem cz3 : Try.prog.cellsOf 3 = 1 := by kernel_rfl
def ok25 (W : World) (x : GName) : Prop := FitI .i64 x.client ∧ FitI .i64 x.seq
theorem op25 (W : World) : Opens Try.prog W 25 GName (ok25 W) := fun H enc fuel cs x h => by
  obtain ⟨hl, n, hf⟩ := open_fieldT uu25 h
  rw [cz25] at hl
  obtain ⟨y0, h0⟩ := hf 0 3 0 (by rw [fl25]; rfl)
  obtain ⟨n0, e0, _, k0⟩ := DataW.trod_int uk3 h0
  rw [cz3] at e0
  have s0 : cs.drop 0 = [.int .i64 n0] ++ cs.drop 1 := by rw [← e0]; exact drop_split cs 0 1
  obtain ⟨y1, h1⟩ := hf 1 3 1 (by rw [fl25]; rfl)
  obtain ⟨n1, e1, _, k1⟩ := DataW.trod_int uk3 h1
  rw [cz3] at e1
  have s1 : cs.drop 1 = [.int .i64 n1] ++ cs.drop 2 := by rw [← e1]; exact drop_split cs 1 1
  have hz : cs.drop 2 = [] := List.drop_eq_nil_of_le (by omega)
  refine ⟨⟨n0, n1⟩, ?_, k0, k1⟩
  have hh : cs.drop 0 = [.int .i64 n0] ++ ([.int .i64 n1]) := by rw [s0, s1, hz, List.append_nil]
  exact hh
theorem cz27 : Try.prog.cellsOf 27 = 32 := by kernel_rfl
theorem op27 (W : World) : Opens Try.prog W 27 GHash (fun _ => True) := opens_hash (t8 := 5) (by kernel_rfl) (by kernel_rfl) (by kernel_rfl) (by kernel_rfl)
theorem cz28 : Try.prog.cellsOf 28 = 1 := by kernel_rfl
def ok30 (W : World) (x : GEntry) : Prop := ok25 W x.name ∧ True ∧ FitI .u64 x.time
theorem op30 (W : World) : Opens Try.prog W 30 GEntry (ok30 W) := fun H enc fuel cs x h => by
  obtain ⟨hl, n, hf⟩ := open_fieldT uu30 h
  rw [cz30] at hl
  obtain ⟨y0, h0⟩ := hf 0 25 0 (by rw [fl30]; rfl)
  obtain ⟨n0, e0, k0⟩ := op25 W H enc _ _ _ h0
  rw [cz25] at e0
  have s0 : cs.drop 0 = Enc.enc n0 ++ cs.drop 2 := by rw [← e0]; exact drop_split cs 0 2
  obtain ⟨y1, h1⟩ := hf 1 27 2 (by rw [fl30]; rfl)
  obtain ⟨n1, e1, k1⟩ := op27 W H enc _ _ _ h1
  rw [cz27] at e1
  have s1 : cs.drop 2 = Enc.enc n1 ++ cs.drop 34 := by rw [← e1]; exact drop_split cs 2 32
  obtain ⟨y2, h2⟩ := hf 2 28 34 (by rw [fl30]; rfl)
  obtain ⟨n2, e2, _, k2⟩ := DataW.trod_int uk28 h2
  rw [cz28] at e2
  have s2 : cs.drop 34 = [.int .u64 n2] ++ cs.drop 35 := by rw [← e2]; exact drop_split cs 34 1
  have hz : cs.drop 35 = [] := List.drop_eq_nil_of_le (by omega)
  refine ⟨⟨n0, n1, n2⟩, ?_, k0, k1, k2⟩
  have hh : cs.drop 0 = Enc.enc n0 ++ (Enc.enc n1 ++ ([.int .u64 n2])) := by rw [s0, s1, s2, hz, List.append_nil]
  exact hh
theorem op22 (W : World) : Opens Try.prog W 22 Hdr (SlOk W GEntry (ok30 W)) := opens_slice (e := 30) (by kernel_rfl) (cz30.trans rfl) (op30 W)
theorem cz39 : Try.prog.cellsOf 39 = 1 := by kernel_rfl
theorem op39 (W : World) : Opens Try.prog W 39 Hdr (SlOk W Hdr (SlOk W GEntry (ok30 W))) := opens_slice (e := 22) (by kernel_rfl) (cz22.trans rfl) (op22 W)
theorem cz36 : Try.prog.cellsOf 36 = 1 := by kernel_rfl
theorem op28 (W : World) : Opens Try.prog W 28 U64 (fun x => FitI .u64 x.v) := opens_u64 (by kernel_rfl)
theorem op36 (W : World) : Opens Try.prog W 36 Hdr (SlOk W U64 (fun x => FitI .u64 x.v)) := opens_slice (e := 28) (by kernel_rfl) (cz28.trans rfl) (op28 W)
theorem cz42 : Try.prog.cellsOf 42 = 1 := by kernel_rfl
theorem op42 (W : World) : Opens Try.prog W 42 Hdr (SlOk W Hdr (SlOk W U64 (fun x => FitI .u64 x.v))) := opens_slice (e := 36) (by kernel_rfl) (cz36.trans rfl) (op36 W)
theorem cz45 : Try.prog.cellsOf 45 = 1 := by kernel_rfl
theorem op3 (W : World) : Opens Try.prog W 3 I64 (fun x => FitI .i64 x.v) := opens_i64 (by kernel_rfl)
theorem op45 (W : World) : Opens Try.prog W 45 Hdr (SlOk W I64 (fun x => FitI .i64 x.v)) := opens_slice (e := 3) (by kernel_rfl) (cz3.trans rfl) (op3 W)
theorem cz41 : Try.prog.cellsOf 41 = 1 := by kernel_rfl
theorem op41 (W : World) : Opens Try.prog W 41 Hdr (SlOk W GName (ok25 W)) := opens_slice (e := 25) (by kernel_rfl) (cz25.trans rfl) (op25 W)
end Go.Proofs.Yteockodnfempfaa
