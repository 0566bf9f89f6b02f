/- Hashes compared; the better entry of a name. Conditions: those named in each theorem. -/
import Derived.Test.YteockodnfempfaaP2
import Derived.Test.YteockodnfempfaaP8
import Derived.Test.YteockodnfempfaaP1
import Derived.Lib.SliceRun
import Derived.RangeFuncNested
import Derived.RangeFuncBox
import Derived.RangeFuncLeaves
import Derived.RangeFuncWrites
import Derived.Shelf.Abstract
import Derived.WalkKit
import Derived.OwnWalkIn
import Derived.TacticsInMore
import Derived.LoopNIn
import Derived.LoopIn
import Derived.Maps.AppendAt
import Derived.Test.YteockodnfempfaaProg
import Derived.Lib.BytesEntry
import Derived.Lib.Bytealg
import Derived.Laws.Externs
/- What the arguments of this seat read as. Conditions: those named in each theorem. -/
namespace Go.Proofs.Yteockodnfempfaa
open Go Go.RowKit Go.Gv

theorem cz65 : Try.prog.cellsOf 65 = 1 := by kernel_rfl
theorem cz74 : Try.prog.cellsOf 74 = 5 := by kernel_rfl
theorem cz70 : Try.prog.cellsOf 70 = 1 := by kernel_rfl
theorem cz92 : Try.prog.cellsOf 92 = 6 := by kernel_rfl
theorem cz90 : Try.prog.cellsOf 90 = 1 := by kernel_rfl
theorem cz89 : Try.prog.cellsOf 89 = 38 := by kernel_rfl
theorem cz84 : Try.prog.cellsOf 84 = 37 := by kernel_rfl
theorem cz82 : Try.prog.cellsOf 82 = 2 := by kernel_rfl
def ok82 (_W : World) (x : GSig) : Prop := FitI .i64 x.by_ ∧ FitI .i64 x.mark
theorem op82 (W : World) : Opens Try.prog W 82 GSig (ok82 W) := fun H enc fuel cs x h => by
  obtain ⟨hl, n, hf⟩ := open_fieldT uu82 h
  rw [cz82] at hl
  obtain ⟨y0, h0⟩ := hf 0 3 0 (by rw [fl82]; rfl)
  obtain ⟨n0, e0, _, k0⟩ := DataW.trod_int uk3 h0
  rw [cz3] at e0
  have s0 : cs.drop 0 = [.int .i64 n0] ++ cs.drop 1 := by rw [← e0]; exact drop_split cs 0 1
  obtain ⟨y1, h1⟩ := hf 1 3 1 (by rw [fl82]; rfl)
  obtain ⟨n1, e1, _, k1⟩ := DataW.trod_int uk3 h1
  rw [cz3] at e1
  have s1 : cs.drop 1 = [.int .i64 n1] ++ cs.drop 2 := by rw [← e1]; exact drop_split cs 1 1
  have hz : cs.drop 2 = [] := List.drop_eq_nil_of_le (by omega)
  refine ⟨⟨n0, n1⟩, ?_, k0, k1⟩
  have hh : cs.drop 0 = [.int .i64 n0] ++ ([.int .i64 n1]) := by rw [s0, s1, hz, List.append_nil]
  exact hh
def ok84 (W : World) (x : GCommit) : Prop := ok25 W x.name ∧ True ∧ FitI .i64 x.len ∧ ok82 W x.sig
theorem op84 (W : World) : Opens Try.prog W 84 GCommit (ok84 W) := fun H enc fuel cs x h => by
  obtain ⟨hl, n, hf⟩ := open_fieldT uu84 h
  rw [cz84] at hl
  obtain ⟨y0, h0⟩ := hf 0 25 0 (by rw [fl84]; rfl)
  obtain ⟨n0, e0, k0⟩ := op25 W H enc _ _ _ h0
  rw [cz25] at e0
  have s0 : cs.drop 0 = Enc.enc n0 ++ cs.drop 2 := by rw [← e0]; exact drop_split cs 0 2
  obtain ⟨y1, h1⟩ := hf 1 27 2 (by rw [fl84]; rfl)
  obtain ⟨n1, e1, k1⟩ := op27 W H enc _ _ _ h1
  rw [cz27] at e1
  have s1 : cs.drop 2 = Enc.enc n1 ++ cs.drop 34 := by rw [← e1]; exact drop_split cs 2 32
  obtain ⟨y2, h2⟩ := hf 2 3 34 (by rw [fl84]; rfl)
  obtain ⟨n2, e2, _, k2⟩ := DataW.trod_int uk3 h2
  rw [cz3] at e2
  have s2 : cs.drop 34 = [.int .i64 n2] ++ cs.drop 35 := by rw [← e2]; exact drop_split cs 34 1
  obtain ⟨y3, h3⟩ := hf 3 82 35 (by rw [fl84]; rfl)
  obtain ⟨n3, e3, k3⟩ := op82 W H enc _ _ _ h3
  rw [cz82] at e3
  have s3 : cs.drop 35 = Enc.enc n3 ++ cs.drop 37 := by rw [← e3]; exact drop_split cs 35 2
  have hz : cs.drop 37 = [] := List.drop_eq_nil_of_le (by omega)
  refine ⟨⟨n0, n1, n2, n3⟩, ?_, k0, k1, k2, k3⟩
  have hh : cs.drop 0 = Enc.enc n0 ++ (Enc.enc n1 ++ ([.int .i64 n2] ++ (Enc.enc n3))) := by rw [s0, s1, s2, s3, hz, List.append_nil]
  exact hh
theorem cz87 : Try.prog.cellsOf 87 = 1 := by kernel_rfl
theorem cz86 : Try.prog.cellsOf 86 = 38 := by kernel_rfl
def ok86 (W : World) (x : GStamp) : Prop := FitI .i64 x.replica ∧ ok25 W x.name ∧ True ∧ FitI .u64 x.time ∧ ok82 W x.sig
theorem op86 (W : World) : Opens Try.prog W 86 GStamp (ok86 W) := fun H enc fuel cs x h => by
  obtain ⟨hl, n, hf⟩ := open_fieldT uu86 h
  rw [cz86] at hl
  obtain ⟨y0, h0⟩ := hf 0 3 0 (by rw [fl86]; rfl)
  obtain ⟨n0, e0, _, k0⟩ := DataW.trod_int uk3 h0
  rw [cz3] at e0
  have s0 : cs.drop 0 = [.int .i64 n0] ++ cs.drop 1 := by rw [← e0]; exact drop_split cs 0 1
  obtain ⟨y1, h1⟩ := hf 1 25 1 (by rw [fl86]; rfl)
  obtain ⟨n1, e1, k1⟩ := op25 W H enc _ _ _ h1
  rw [cz25] at e1
  have s1 : cs.drop 1 = Enc.enc n1 ++ cs.drop 3 := by rw [← e1]; exact drop_split cs 1 2
  obtain ⟨y2, h2⟩ := hf 2 27 3 (by rw [fl86]; rfl)
  obtain ⟨n2, e2, k2⟩ := op27 W H enc _ _ _ h2
  rw [cz27] at e2
  have s2 : cs.drop 3 = Enc.enc n2 ++ cs.drop 35 := by rw [← e2]; exact drop_split cs 3 32
  obtain ⟨y3, h3⟩ := hf 3 28 35 (by rw [fl86]; rfl)
  obtain ⟨n3, e3, _, k3⟩ := DataW.trod_int uk28 h3
  rw [cz28] at e3
  have s3 : cs.drop 35 = [.int .u64 n3] ++ cs.drop 36 := by rw [← e3]; exact drop_split cs 35 1
  obtain ⟨y4, h4⟩ := hf 4 82 36 (by rw [fl86]; rfl)
  obtain ⟨n4, e4, k4⟩ := op82 W H enc _ _ _ h4
  rw [cz82] at e4
  have s4 : cs.drop 36 = Enc.enc n4 ++ cs.drop 38 := by rw [← e4]; exact drop_split cs 36 2
  have hz : cs.drop 38 = [] := List.drop_eq_nil_of_le (by omega)
  refine ⟨⟨n0, n1, n2, n3, n4⟩, ?_, k0, k1, k2, k3, k4⟩
  have hh : cs.drop 0 = [.int .i64 n0] ++ (Enc.enc n1 ++ (Enc.enc n2 ++ ([.int .u64 n3] ++ (Enc.enc n4)))) := by rw [s0, s1, s2, s3, s4, hz, List.append_nil]
  exact hh
theorem op87 (W : World) : Opens Try.prog W 87 Hdr (SlOk W GStamp (ok86 W)) := opens_slice (e := 86) (by kernel_rfl) (cz86.trans rfl) (op86 W)
def ok89 (W : World) (x : GCert) : Prop := ok84 W x.commit ∧ SlOk W GStamp (ok86 W) x.stamps
theorem op89 (W : World) : Opens Try.prog W 89 GCert (ok89 W) := fun H enc fuel cs x h => by
  obtain ⟨hl, n, hf⟩ := open_fieldT uu89 h
  rw [cz89] at hl
  obtain ⟨y0, h0⟩ := hf 0 84 0 (by rw [fl89]; rfl)
  obtain ⟨n0, e0, k0⟩ := op84 W H enc _ _ _ h0
  rw [cz84] at e0
  have s0 : cs.drop 0 = Enc.enc n0 ++ cs.drop 37 := by rw [← e0]; exact drop_split cs 0 37
  obtain ⟨y1, h1⟩ := hf 1 87 37 (by rw [fl89]; rfl)
  obtain ⟨n1, e1, k1⟩ := op87 W H enc _ _ _ h1
  rw [cz87] at e1
  have s1 : cs.drop 37 = Enc.enc n1 ++ cs.drop 38 := by rw [← e1]; exact drop_split cs 37 1
  have hz : cs.drop 38 = [] := List.drop_eq_nil_of_le (by omega)
  refine ⟨⟨n0, n1⟩, ?_, k0, k1⟩
  have hh : cs.drop 0 = Enc.enc n0 ++ (Enc.enc n1) := by rw [s0, s1, hz, List.append_nil]
  exact hh
theorem op90 (W : World) : Opens Try.prog W 90 Hdr (SlOk W GCert (ok89 W)) := opens_slice (e := 89) (by kernel_rfl) (cz89.trans rfl) (op89 W)
def ok92 (W : World) (x : GPromise) : Prop := FitI .i64 x.replica ∧ FitI .i64 x.epoch ∧ FitI .u64 x.floor ∧ SlOk W GCert (ok89 W) x.certs ∧ ok82 W x.sig
theorem op92 (W : World) : Opens Try.prog W 92 GPromise (ok92 W) := fun H enc fuel cs x h => by
  obtain ⟨hl, n, hf⟩ := open_fieldT uu92 h
  rw [cz92] at hl
  obtain ⟨y0, h0⟩ := hf 0 3 0 (by rw [fl92]; rfl)
  obtain ⟨n0, e0, _, k0⟩ := DataW.trod_int uk3 h0
  rw [cz3] at e0
  have s0 : cs.drop 0 = [.int .i64 n0] ++ cs.drop 1 := by rw [← e0]; exact drop_split cs 0 1
  obtain ⟨y1, h1⟩ := hf 1 3 1 (by rw [fl92]; rfl)
  obtain ⟨n1, e1, _, k1⟩ := DataW.trod_int uk3 h1
  rw [cz3] at e1
  have s1 : cs.drop 1 = [.int .i64 n1] ++ cs.drop 2 := by rw [← e1]; exact drop_split cs 1 1
  obtain ⟨y2, h2⟩ := hf 2 28 2 (by rw [fl92]; rfl)
  obtain ⟨n2, e2, _, k2⟩ := DataW.trod_int uk28 h2
  rw [cz28] at e2
  have s2 : cs.drop 2 = [.int .u64 n2] ++ cs.drop 3 := by rw [← e2]; exact drop_split cs 2 1
  obtain ⟨y3, h3⟩ := hf 3 90 3 (by rw [fl92]; rfl)
  obtain ⟨n3, e3, k3⟩ := op90 W H enc _ _ _ h3
  rw [cz90] at e3
  have s3 : cs.drop 3 = Enc.enc n3 ++ cs.drop 4 := by rw [← e3]; exact drop_split cs 3 1
  obtain ⟨y4, h4⟩ := hf 4 82 4 (by rw [fl92]; rfl)
  obtain ⟨n4, e4, k4⟩ := op82 W H enc _ _ _ h4
  rw [cz82] at e4
  have s4 : cs.drop 4 = Enc.enc n4 ++ cs.drop 6 := by rw [← e4]; exact drop_split cs 4 2
  have hz : cs.drop 6 = [] := List.drop_eq_nil_of_le (by omega)
  refine ⟨⟨n0, n1, n2, n3, n4⟩, ?_, k0, k1, k2, k3, k4⟩
  have hh : cs.drop 0 = [.int .i64 n0] ++ ([.int .i64 n1] ++ ([.int .u64 n2] ++ (Enc.enc n3 ++ (Enc.enc n4)))) := by rw [s0, s1, s2, s3, s4, hz, List.append_nil]
  exact hh
theorem op70 (W : World) : Opens Try.prog W 70 Hdr (SlOk W GPromise (ok92 W)) := opens_slice (e := 92) (by kernel_rfl) (cz92.trans rfl) (op92 W)
theorem cz71 : Try.prog.cellsOf 71 = 1 := by kernel_rfl
theorem cz94 : Try.prog.cellsOf 94 = 34 := by kernel_rfl
theorem cz79 : Try.prog.cellsOf 79 = 1 := by kernel_rfl
theorem cz5 : Try.prog.cellsOf 5 = 1 := by kernel_rfl
theorem op5 (W : World) : Opens Try.prog W 5 U8 (fun _ => True) := opens_u8 (by kernel_rfl)
theorem op79 (W : World) : Opens Try.prog W 79 Hdr (SlOk W U8 (fun _ => True)) := opens_slice (e := 5) (by kernel_rfl) (cz5.trans rfl) (op5 W)
def ok94 (W : World) (x : GOpening) : Prop := FitI .i64 x.index ∧ SlOk W U8 (fun _ => True) x.payload ∧ True
theorem op94 (W : World) : Opens Try.prog W 94 GOpening (ok94 W) := fun H enc fuel cs x h => by
  obtain ⟨hl, n, hf⟩ := open_fieldT uu94 h
  rw [cz94] at hl
  obtain ⟨y0, h0⟩ := hf 0 3 0 (by rw [fl94]; rfl)
  obtain ⟨n0, e0, _, k0⟩ := DataW.trod_int uk3 h0
  rw [cz3] at e0
  have s0 : cs.drop 0 = [.int .i64 n0] ++ cs.drop 1 := by rw [← e0]; exact drop_split cs 0 1
  obtain ⟨y1, h1⟩ := hf 1 79 1 (by rw [fl94]; rfl)
  obtain ⟨n1, e1, k1⟩ := op79 W H enc _ _ _ h1
  rw [cz79] at e1
  have s1 : cs.drop 1 = Enc.enc n1 ++ cs.drop 2 := by rw [← e1]; exact drop_split cs 1 1
  obtain ⟨y2, h2⟩ := hf 2 27 2 (by rw [fl94]; rfl)
  obtain ⟨n2, e2, k2⟩ := op27 W H enc _ _ _ h2
  rw [cz27] at e2
  have s2 : cs.drop 2 = Enc.enc n2 ++ cs.drop 34 := by rw [← e2]; exact drop_split cs 2 32
  have hz : cs.drop 34 = [] := List.drop_eq_nil_of_le (by omega)
  refine ⟨⟨n0, n1, n2⟩, ?_, k0, k1, k2⟩
  have hh : cs.drop 0 = [.int .i64 n0] ++ (Enc.enc n1 ++ (Enc.enc n2)) := by rw [s0, s1, s2, hz, List.append_nil]
  exact hh
theorem op71 (W : World) : Opens Try.prog W 71 Hdr (SlOk W GOpening (ok94 W)) := opens_slice (e := 94) (by kernel_rfl) (cz94.trans rfl) (op94 W)
theorem cz72 : Try.prog.cellsOf 72 = 1 := by kernel_rfl
theorem cz97 : Try.prog.cellsOf 97 = 2 := by kernel_rfl
theorem cz95 : Try.prog.cellsOf 95 = 1 := by kernel_rfl
theorem cz299 : Try.prog.cellsOf 299 = 4 := by kernel_rfl
def ok299 (W : World) (x : GDeny) : Prop := FitI .i64 x.replica ∧ FitI .i64 x.index ∧ ok82 W x.sig
theorem op299 (W : World) : Opens Try.prog W 299 GDeny (ok299 W) := fun H enc fuel cs x h => by
  obtain ⟨hl, n, hf⟩ := open_fieldT uu299 h
  rw [cz299] at hl
  obtain ⟨y0, h0⟩ := hf 0 3 0 (by rw [fl299]; rfl)
  obtain ⟨n0, e0, _, k0⟩ := DataW.trod_int uk3 h0
  rw [cz3] at e0
  have s0 : cs.drop 0 = [.int .i64 n0] ++ cs.drop 1 := by rw [← e0]; exact drop_split cs 0 1
  obtain ⟨y1, h1⟩ := hf 1 3 1 (by rw [fl299]; rfl)
  obtain ⟨n1, e1, _, k1⟩ := DataW.trod_int uk3 h1
  rw [cz3] at e1
  have s1 : cs.drop 1 = [.int .i64 n1] ++ cs.drop 2 := by rw [← e1]; exact drop_split cs 1 1
  obtain ⟨y2, h2⟩ := hf 2 82 2 (by rw [fl299]; rfl)
  obtain ⟨n2, e2, k2⟩ := op82 W H enc _ _ _ h2
  rw [cz82] at e2
  have s2 : cs.drop 2 = Enc.enc n2 ++ cs.drop 4 := by rw [← e2]; exact drop_split cs 2 2
  have hz : cs.drop 4 = [] := List.drop_eq_nil_of_le (by omega)
  refine ⟨⟨n0, n1, n2⟩, ?_, k0, k1, k2⟩
  have hh : cs.drop 0 = [.int .i64 n0] ++ ([.int .i64 n1] ++ (Enc.enc n2)) := by rw [s0, s1, s2, hz, List.append_nil]
  exact hh
theorem op95 (W : World) : Opens Try.prog W 95 Hdr (SlOk W GDeny (ok299 W)) := opens_slice (e := 299) (by kernel_rfl) (cz299.trans rfl) (op299 W)
def ok97 (W : World) (x : GTomb) : Prop := FitI .i64 x.index ∧ SlOk W GDeny (ok299 W) x.denies
theorem op97 (W : World) : Opens Try.prog W 97 GTomb (ok97 W) := fun H enc fuel cs x h => by
  obtain ⟨hl, n, hf⟩ := open_fieldT uu97 h
  rw [cz97] at hl
  obtain ⟨y0, h0⟩ := hf 0 3 0 (by rw [fl97]; rfl)
  obtain ⟨n0, e0, _, k0⟩ := DataW.trod_int uk3 h0
  rw [cz3] at e0
  have s0 : cs.drop 0 = [.int .i64 n0] ++ cs.drop 1 := by rw [← e0]; exact drop_split cs 0 1
  obtain ⟨y1, h1⟩ := hf 1 95 1 (by rw [fl97]; rfl)
  obtain ⟨n1, e1, k1⟩ := op95 W H enc _ _ _ h1
  rw [cz95] at e1
  have s1 : cs.drop 1 = Enc.enc n1 ++ cs.drop 2 := by rw [← e1]; exact drop_split cs 1 1
  have hz : cs.drop 2 = [] := List.drop_eq_nil_of_le (by omega)
  refine ⟨⟨n0, n1⟩, ?_, k0, k1⟩
  have hh : cs.drop 0 = [.int .i64 n0] ++ (Enc.enc n1) := by rw [s0, s1, hz, List.append_nil]
  exact hh
theorem op72 (W : World) : Opens Try.prog W 72 Hdr (SlOk W GTomb (ok97 W)) := opens_slice (e := 97) (by kernel_rfl) (cz97.trans rfl) (op97 W)
def ok74 (W : World) (x : GBatch) : Prop := FitI .i64 x.epoch ∧ FitI .u64 x.time ∧ SlOk W GPromise (ok92 W) x.promises ∧ SlOk W GOpening (ok94 W) x.openings ∧ SlOk W GTomb (ok97 W) x.tombs
theorem op74 (W : World) : Opens Try.prog W 74 GBatch (ok74 W) := fun H enc fuel cs x h => by
  obtain ⟨hl, n, hf⟩ := open_fieldT uu74 h
  rw [cz74] at hl
  obtain ⟨y0, h0⟩ := hf 0 3 0 (by rw [fl74]; rfl)
  obtain ⟨n0, e0, _, k0⟩ := DataW.trod_int uk3 h0
  rw [cz3] at e0
  have s0 : cs.drop 0 = [.int .i64 n0] ++ cs.drop 1 := by rw [← e0]; exact drop_split cs 0 1
  obtain ⟨y1, h1⟩ := hf 1 28 1 (by rw [fl74]; rfl)
  obtain ⟨n1, e1, _, k1⟩ := DataW.trod_int uk28 h1
  rw [cz28] at e1
  have s1 : cs.drop 1 = [.int .u64 n1] ++ cs.drop 2 := by rw [← e1]; exact drop_split cs 1 1
  obtain ⟨y2, h2⟩ := hf 2 70 2 (by rw [fl74]; rfl)
  obtain ⟨n2, e2, k2⟩ := op70 W H enc _ _ _ h2
  rw [cz70] at e2
  have s2 : cs.drop 2 = Enc.enc n2 ++ cs.drop 3 := by rw [← e2]; exact drop_split cs 2 1
  obtain ⟨y3, h3⟩ := hf 3 71 3 (by rw [fl74]; rfl)
  obtain ⟨n3, e3, k3⟩ := op71 W H enc _ _ _ h3
  rw [cz71] at e3
  have s3 : cs.drop 3 = Enc.enc n3 ++ cs.drop 4 := by rw [← e3]; exact drop_split cs 3 1
  obtain ⟨y4, h4⟩ := hf 4 72 4 (by rw [fl74]; rfl)
  obtain ⟨n4, e4, k4⟩ := op72 W H enc _ _ _ h4
  rw [cz72] at e4
  have s4 : cs.drop 4 = Enc.enc n4 ++ cs.drop 5 := by rw [← e4]; exact drop_split cs 4 1
  have hz : cs.drop 5 = [] := List.drop_eq_nil_of_le (by omega)
  refine ⟨⟨n0, n1, n2, n3, n4⟩, ?_, k0, k1, k2, k3, k4⟩
  have hh : cs.drop 0 = [.int .i64 n0] ++ ([.int .u64 n1] ++ (Enc.enc n2 ++ (Enc.enc n3 ++ (Enc.enc n4)))) := by rw [s0, s1, s2, s3, s4, hz, List.append_nil]
  exact hh
theorem op65 (W : World) : Opens Try.prog W 65 Hdr (SlOk W GBatch (ok74 W)) := opens_slice (e := 74) (by kernel_rfl) (cz74.trans rfl) (op74 W)
theorem cz109 : Try.prog.cellsOf 109 = 2 := by kernel_rfl
def ok109 (_W : World) (x : GConf) : Prop := FitI .i64 x.f ∧ FitI .i64 x.clients
theorem op109 (W : World) : Opens Try.prog W 109 GConf (ok109 W) := fun H enc fuel cs x h => by
  obtain ⟨hl, n, hf⟩ := open_fieldT uu109 h
  rw [cz109] at hl
  obtain ⟨y0, h0⟩ := hf 0 3 0 (by rw [fl109]; rfl)
  obtain ⟨n0, e0, _, k0⟩ := DataW.trod_int uk3 h0
  rw [cz3] at e0
  have s0 : cs.drop 0 = [.int .i64 n0] ++ cs.drop 1 := by rw [← e0]; exact drop_split cs 0 1
  obtain ⟨y1, h1⟩ := hf 1 3 1 (by rw [fl109]; rfl)
  obtain ⟨n1, e1, _, k1⟩ := DataW.trod_int uk3 h1
  rw [cz3] at e1
  have s1 : cs.drop 1 = [.int .i64 n1] ++ cs.drop 2 := by rw [← e1]; exact drop_split cs 1 1
  have hz : cs.drop 2 = [] := List.drop_eq_nil_of_le (by omega)
  refine ⟨⟨n0, n1⟩, ?_, k0, k1⟩
  have hh : cs.drop 0 = [.int .i64 n0] ++ ([.int .i64 n1]) := by rw [s0, s1, hz, List.append_nil]
  exact hh
end Go.Proofs.Yteockodnfempfaa
/- Ledgers: what a ledger reads as. Conditions: those named in each theorem. -/
namespace Go.Proofs.Yteockodnfempfaa
open Go Go.RowKit Go.Gv

/-- w' is w but for the blocks S, and new ones. -/
structure Chg (S : Nat → Prop) (w w' : World) : Prop where
  os : w'.os = w.os
  tape : w'.tape = w.tape
  output : w'.output = w.output
  size : w.heap.size ≤ w'.heap.size
  block : ∀ k, k < w.heap.size → ¬ S k → w'.heap[k]? = w.heap[k]?
section
variable {S S' : Nat → Prop} {w w' w2 : World}
theorem Chg.refl (S : Nat → Prop) (w : World) : Chg S w w := ⟨rfl, rfl, rfl, Nat.le_refl _, fun _ _ _ => rfl⟩
theorem Chg.trans (h : Chg S w w') (k : Chg S' w' w2) (hS : ∀ k, S' k → S k ∨ w.heap.size ≤ k) : Chg S w w2 :=
  ⟨k.os.trans h.os, k.tape.trans h.tape, k.output.trans h.output, Nat.le_trans h.size k.size, fun i hi hn => (k.block i (Nat.lt_of_lt_of_le hi h.size) (fun hs => by rcases hS i hs with h1 | h1; exact hn h1; omega)).trans (h.block i hi hn)⟩
theorem Chg.tr (h : Chg S w w') (k : Chg S w' w2) : Chg S w w2 := h.trans k fun _ h => .inl h
theorem Chg.of_bel (h : Bel w w') (S : Nat → Prop) : Chg S w w' := ⟨Below.os h, Below.tape h, Below.output h, Below.size h, fun k hk _ => Below.block h k hk⟩
theorem Chg.of_grown {row : Option Nat} (h : w.grownBy w' row) (hS : ∀ k, row = some k → S k) : Chg S w w' := ⟨h.os, h.tape, h.output, h.size, fun k hk hn => h.block k hk (fun e => hn (hS k e.symm))⟩
theorem Chg.bel (h : Chg S w w') (hS : ∀ k, S k → w.heap.size ≤ k) : Bel w w' := ⟨h.os, h.tape, h.output, h.size, fun k hk => h.block k hk (fun hs => by have := hS k hs; omega)⟩
theorem Chg.bel2 {w0 : World} (hb : Bel w0 w) (h : Chg S w w') (hS : ∀ k, S k → w0.heap.size ≤ k) : Bel w0 w' :=
  ⟨h.os.trans (Below.os hb), h.tape.trans (Below.tape hb), h.output.trans (Below.output hb), Nat.le_trans hb.size h.size, fun k hk => (h.block k (Nat.lt_of_lt_of_le hk hb.size) (fun hs => by have := hS k hs; omega)).trans (Below.block hb k hk)⟩
theorem Chg.cell {p : Addr} {v : Value} (h : Chg S w w') (hc : w.cell? p = some v) (hp : ¬ S p.block) : w'.cell? p = some v :=
  (World.cell?_of_block (w := w) (h.block _ (World.block_lt_of_cell? w _ hc) hp)).trans hc
theorem Chg.get {α : Type} [Enc α] {a : Addr} {x : α} (h : Chg S w w') (hg : get? α w a = some x) (hp : ¬ S a.block) : get? α w' a = some x := (get?_keep (h.block _ (get?_lt hg) hp)).trans hg
theorem Chg.free {n : Nat} (h : Chg S w w') (hf : blkFree w n = true) (hl : n < w.heap.size) (hn : ¬ S n) : blkFree w' n = true := (blkFree_keep (h.block _ hl hn)).trans hf
theorem Chg.map {K V : Type} [DecidableEq K] [KEnc K] [VEnc V] {r : Nat} {m : List (K × V)} (h : Chg S w w') (hm : mapAt K V w r = some m) (hr : ¬ S r) : mapAt K V w' r = some m := (mapAt_keep (h.block _ (mapAt_lt hm) hr)).trans hm
/-- A slice whose block, if it has elements, is one of Q. -/
def SlQ (α : Type) [Enc α] (Q : Nat → Prop) (w : World) (h : Hdr) (xs : List α) : Prop := Sl α w w.heap.size h.a h.len xs ∧ h.len ≤ h.cap ∧ h.cap ≤ maxLen ∧ (0 < h.len → ∀ ad, h.a = some ad → Q ad.block)
theorem _root_.Go.Gv.Sl.chg {α : Type} [Enc α] {A : Option Addr} {n : Nat} {xs : List α} (h : Chg S w w') (hs : Sl α w w.heap.size A n xs) (hx : 0 < n → ∀ ad, A = some ad → ¬ S ad.block) : Sl α w' w'.heap.size A n xs := by
  refine ⟨hs.1, fun hn => ?_⟩
  obtain ⟨ad, e, hb, hc⟩ := hs.2 hn
  exact ⟨ad, e, Nat.lt_of_lt_of_le hb h.size, fun k x hx' => Chg.get h (hc k x hx') (by rw [add_block]; exact hx hn ad e)⟩
theorem SlQ.chg {α : Type} [Enc α] {Q : Nat → Prop} {hd : Hdr} {xs : List α} (h : Chg S w w') (hs : SlQ α Q w hd xs) (hQ : ∀ k, Q k → ¬ S k) : SlQ α Q w' hd xs := ⟨Sl.chg h hs.1 (fun hn ad e => hQ _ (hs.2.2.2 hn ad e)), hs.2.1, hs.2.2.1, hs.2.2.2⟩
theorem SlQ.mono {α : Type} [Enc α] {Q Q' : Nat → Prop} {hd : Hdr} {xs : List α} (hs : SlQ α Q w hd xs) (hQ : ∀ k, k < w.heap.size → Q k → Q' k) : SlQ α Q' w hd xs :=
  ⟨hs.1, hs.2.1, hs.2.2.1, fun hn ad e => hQ _ (hs.1.block_lt hn e) (hs.2.2.2 hn ad e)⟩
theorem SlQ.bel {α : Type} [Enc α] {Q : Nat → Prop} {hd : Hdr} {xs : List α} (hs : SlQ α Q w hd xs) (hb : Bel w w') : SlQ α Q w' hd xs := ⟨hs.1.stepB hb, hs.2⟩
theorem _root_.Go.Gv.OwnS.keep {α : Type} [Enc α] {base : Nat} {e : TypeId} {v : Value} {xs : List α} (h : OwnS w base e v xs) (hk : ∀ k, v.ownBlock = some k → w'.heap[k]? = w.heap[k]?) : OwnS w' base e v xs := by
  refine ⟨h.1, ?_⟩
  rcases h.2 with ⟨h1, h2⟩ | ⟨g, cap, cur, hv, hb, hh, rest⟩
  · exact .inl ⟨h1, h2⟩
  · exact .inr ⟨g, cap, cur, hv, hb, (hk g (by rw [hv]; rfl)).trans hh, rest⟩
theorem _root_.Go.Gv.OwnS.chg {α : Type} [Enc α] {base : Nat} {e : TypeId} {v : Value} {xs : List α} (h : OwnS w base e v xs) (hc : Chg S w w') (hS : ∀ k, v.ownBlock = some k → ¬ S k) : OwnS w' base e v xs :=
  h.keep fun k hk => hc.block k (h.lt k hk).2 (hS k hk)
end

/-! ### The model -/
structure MPlace where
  e : GEntry
  status : Int
  pay : List U8
structure MLedger where
  epoch : Int
  last : Int
  l : List MPlace
  done : Int
def PlaceIs (Q : Nat → Prop) (w : World) (x : GLedgerPlace) (m : MPlace) : Prop := x.e = m.e ∧ x.status = m.status ∧ SlQ U8 Q w x.payload m.pay
def namesFrom : Nat → List MPlace → List (GName × Int)
  | _, [] => []
  | i, x :: l => (x.e.name, (i : Int)) :: namesFrom (i + 1) l
def namesOf (l : List MPlace) : List (GName × Int) := namesFrom 0 l
/-- The blocks of a ledger that are written. -/
def footL (g r : Nat) (hd : Hdr) (k : Nat) : Prop := k = g ∨ k = r ∨ hd.val.ownBlock = some k
/-- At block g lies a ledger; S: its blocks that are written; U: all its blocks. -/
def LedgerIs (w : World) (g : Nat) (S U : Nat → Prop) (M : MLedger) : Prop :=
  ∃ (hd : Hdr) (r : Nat) (ps : List GLedgerPlace) (nm : List (GName × Int)), S = footL g r hd ∧ ((∀ k, S k → U k) ∧ ∀ k, U k → k < w.heap.size) ∧ get? GLedgerLedger w ⟨g, 0, none⟩ = some ⟨M.epoch, M.last, hd, some r, M.done⟩ ∧ blkFree w g = true ∧
    OwnS w 0 169 hd.val ps ∧ hd.val.ownBlock ≠ some g ∧ R2 (PlaceIs (fun k => U k ∧ ¬ S k) w) ps M.l ∧ mapAt GName Int w r = some nm ∧ nm.Perm (namesOf M.l)
section
variable {w w' : World} {g : Nat} {S U T : Nat → Prop} {M : MLedger}
theorem LedgerIs.ltU (h : LedgerIs w g S U M) : ∀ k, U k → k < w.heap.size := by
  obtain ⟨hd, r, ps, nm, rfl, hSU, _⟩ := h
  exact hSU.2
theorem LedgerIs.sub (h : LedgerIs w g S U M) : ∀ k, S k → U k := by
  obtain ⟨hd, r, ps, nm, rfl, hSU, _⟩ := h
  exact hSU.1
theorem LedgerIs.lt (h : LedgerIs w g S U M) : ∀ k, S k → k < w.heap.size := by
  obtain ⟨hd, r, ps, nm, rfl, _, hg, _, ho, _, _, hm, _⟩ := h
  rintro k (rfl | rfl | h)
  · exact get?_lt hg
  · exact mapAt_lt hm
  · exact (ho.lt k h).2
/-- What goes on outside a ledger leaves it as it is. -/
theorem LedgerIs.chg (h : LedgerIs w g S U M) (hc : Chg T w w') (hT : ∀ k, U k → ¬ T k) : LedgerIs w' g S U M := by
  obtain ⟨hd, r, ps, nm, rfl, hSU, hg, hf, ho, hne, hr, hm, hp⟩ := h
  have hS : ∀ k, footL g r hd k → ¬ T k := fun k hk => hT k (hSU.1 k hk)
  refine ⟨hd, r, ps, nm, rfl, ⟨hSU.1, fun k hk => Nat.lt_of_lt_of_le (hSU.2 k hk) hc.size⟩, hc.get hg (hS g (.inl rfl)), hc.free hf (get?_lt hg) (hS g (.inl rfl)), ho.chg hc (fun k hk => hS k (.inr (.inr hk))), hne, hr.mono (fun a b hab => ⟨hab.1, hab.2.1, ?_⟩), hc.map hm (hS r (.inr (.inl rfl))), hp⟩
  obtain ⟨h1, h2, h3, h4⟩ := hab.2.2
  exact ⟨Sl.chg hc h1 (fun hn ad e => hT _ (h4 hn ad e).1), h2, h3, h4⟩
theorem LedgerIs.bel (h : LedgerIs w g S U M) (hb : Bel w w') : LedgerIs w' g S U M := h.chg (T := fun _ => False) (Chg.of_bel hb _) (fun _ _ h => h)
theorem LedgerIs.len (h : LedgerIs w g S U M) : ∃ hd : Hdr, ∃ r, get? GLedgerLedger w ⟨g, 0, none⟩ = some ⟨M.epoch, M.last, hd, some r, M.done⟩ ∧ hd.len = M.l.length := by
  obtain ⟨hd, r, ps, nm, rfl, hSU, hg, hf, ho, hne, hr, hm, hp⟩ := h
  obtain ⟨A, c, hv, _⟩ := OwnS.ownA ho
  refine ⟨hd, r, hg, ?_⟩
  unfold Hdr.val at hv
  injection hv with _ e _
  rw [e, hr.len]
end
end Go.Proofs.Yteockodnfempfaa
/- What the looking calls of a ledger compute. Conditions: those named in each theorem. -/
namespace Go.Proofs.Yteockodnfempfaa
open Go Go.RowKit Go.Gv

theorem ledger_cells {w : World} {g : Nat} {x : GLedgerLedger} (h : get? GLedgerLedger w ⟨g, 0, none⟩ = some x) :
    w.cell? ⟨g, 0, none⟩ = some (.int .i64 x.epoch) ∧ w.cell? ⟨g, 1, none⟩ = some (.int .u64 x.last) ∧ w.cell? ⟨g, 2, none⟩ = some (.slice x.l.a x.l.len x.l.cap) ∧ w.cell? ⟨g, 3, none⟩ = some (.map x.names) ∧ w.cell? ⟨g, 4, none⟩ = some (.int .i64 x.done) :=
  ⟨cell_zero (GLedgerLedger.at_epoch h), by simpa using cell_off (by omega) (GLedgerLedger.at_last h), by simpa [Hdr.val] using cell_off (by omega) (GLedgerLedger.at_l h), by simpa using cell_off (by omega) (GLedgerLedger.at_names h), by simpa using cell_off (by omega) (GLedgerLedger.at_done h)⟩
theorem newLedger_any (w : World) : Calls Try.prog 41 #[] w fun e w' => ∃ (g : Nat) (S U : Nat → Prop), e = .returned (.pointer (some ⟨g, 0, none⟩)) ∧ LedgerIs w' g S U ⟨0, 0, [], 0⟩ ∧ (∀ k, U k → w.heap.size ≤ k) ∧ Bel w w' := by
  have hmm := @run_makeMap Try.prog
  go_enter Try.func41, Try.ntmps41
  go_wp2
  go_ret
  refine ⟨w.heap.size + 1, footL (w.heap.size + 1) w.heap.size default, footL (w.heap.size + 1) w.heap.size default, rfl, ⟨default, w.heap.size, [], [], rfl, ⟨fun _ h => h, ?_⟩, ?_, ?_, OwnS.nil _ _ _, by simp [Hdr.val, Value.ownBlock], trivial, ?_, by simp [namesOf, namesFrom]⟩, ?_, ((Bel.refl w).alloc _).alloc _⟩
  · rintro k (rfl | rfl | h)
    · simp only [World.size_alloc]; omega
    · simp only [World.size_alloc]; omega
    · simp [Hdr.val, Value.ownBlock] at h
  · exact nw164 (w.alloc (.map #[] 0)) (w.heap.size + 1) ⟨0, 0, default, some w.heap.size, 0⟩ (by simp)
  · exact blkFree_new _ _ (by simp)
  · exact mapAt_alloc _ (mapAt_new _ _ w)
  · rintro k (rfl | rfl | h)
    · omega
    · exact Nat.le_refl _
    · simp [Hdr.val, Value.ownBlock] at h
theorem epoch_any (g : Nat) (S U : Nat → Prop) (M : MLedger) (w : World) (h : LedgerIs w g S U M) :
    Calls Try.prog 44 #[.pointer (some ⟨g, 0, none⟩)] w fun e w' => e = .returned (.int .i64 M.epoch) ∧ w = w' := by
  obtain ⟨hd, r, hg, hl⟩ := h.len
  obtain ⟨f0, _, _, _, _⟩ := ledger_cells hg
  clear hg h
  go_enter Try.func44, Try.ntmps44
  go_wp2
  go_ret
  exact ⟨rfl, rfl⟩
theorem last_any (g : Nat) (S U : Nat → Prop) (M : MLedger) (w : World) (h : LedgerIs w g S U M) :
    Calls Try.prog 45 #[.pointer (some ⟨g, 0, none⟩)] w fun e w' => e = .returned (.int .u64 M.last) ∧ w = w' := by
  obtain ⟨hd, r, hg, hl⟩ := h.len
  obtain ⟨_, f0, _, _, _⟩ := ledger_cells hg
  clear hg h
  go_enter Try.func45, Try.ntmps45
  go_wp2
  go_ret
  exact ⟨rfl, rfl⟩
theorem lenL_any (g : Nat) (S U : Nat → Prop) (M : MLedger) (w : World) (h : LedgerIs w g S U M) :
    Calls Try.prog 46 #[.pointer (some ⟨g, 0, none⟩)] w fun e w' => e = .returned (.int .i64 (M.l.length : Nat)) ∧ w = w' := by
  obtain ⟨hd, r, hg, hl⟩ := h.len
  obtain ⟨_, _, f0, _, _⟩ := ledger_cells hg
  simp only at f0
  have HL := Lib.hid hl
  clear hg h hl
  go_enter Try.func46, Try.ntmps46
  go_wp2
  go_ret
  exact ⟨by rw [HL.out]; rfl, rfl⟩
def inB (M : MLedger) (i : Int) : Bool := decide (0 ≤ i) && decide (i < (M.l.length : Int))
theorem in_any (g : Nat) (S U : Nat → Prop) (M : MLedger) (i : Int) (w : World) (h : LedgerIs w g S U M) :
    Calls Try.prog 85 #[.pointer (some ⟨g, 0, none⟩), .int .i64 i] w fun e w' => e = .returned (.bool (inB M i)) ∧ w = w' := by
  obtain ⟨hd, r, hg, hl⟩ := h.len
  obtain ⟨_, _, f0, _, _⟩ := ledger_cells hg
  simp only at f0
  have HL := Lib.hid hl
  clear hg h hl
  by_cases h0 : 0 ≤ i
  · by_cases h1 : i < (hd.len : Int)
    · go_enter Try.func85, Try.ntmps85
      go_wp2
      go_ret
      exact ⟨ret_bool (by unfold inB; rw [← HL.out]; simp [h0, h1]), rfl⟩
    · go_enter Try.func85, Try.ntmps85
      go_wp2
      go_ret
      exact ⟨ret_bool (by unfold inB; rw [← HL.out]; simp; omega), rfl⟩
  · go_enter Try.func85, Try.ntmps85
    go_wp2
    go_ret
    exact ⟨ret_bool (by unfold inB; simp; omega), rfl⟩
theorem in_is (r : Bool) (g : Nat) (S U : Nat → Prop) (M : MLedger) (i : Int) (w : World) (hr : inB M i = r) (h : LedgerIs w g S U M) :
    Calls Try.prog 85 #[.pointer (some ⟨g, 0, none⟩), .int .i64 i] w fun e w' => e = .returned (.bool r) ∧ w = w' := by subst hr; exact in_any g S U M i w h
end Go.Proofs.Yteockodnfempfaa
/- Places of a ledger. Conditions: those named in each theorem. -/
namespace Go.Proofs.Yteockodnfempfaa
open Go Go.RowKit Go.Gv

theorem LedgerIs.place {w : World} {g : Nat} {S U : Nat → Prop} {M : MLedger} (h : LedgerIs w g S U M) {i : Nat} {m : MPlace} (hi : M.l[i]? = some m) :
    ∃ (pb c r : Nat) (x : GLedgerPlace), get? GLedgerLedger w ⟨g, 0, none⟩ = some ⟨M.epoch, M.last, ⟨some ⟨pb, 0, none⟩, M.l.length, c⟩, some r, M.done⟩ ∧ get? GLedgerPlace w ⟨pb, i * 37, none⟩ = some x ∧ PlaceIs (fun k => U k ∧ ¬ S k) w x m ∧ blkFree w pb = true ∧ S pb ∧ pb ≠ g := by
  obtain ⟨hd, r, ps, nm, rfl, hSU, hg, hf, ho, hne, hr, hm, hp⟩ := h
  have hil : i < ps.length := by rw [hr.len]; exact (List.getElem?_eq_some_iff.1 hi).1
  obtain ⟨A, c, hv, hoa, _, _⟩ := OwnS.ownA ho
  obtain ⟨pb, rfl, _, _, hfr⟩ := OwnA.place hoa (by omega)
  obtain ⟨ad, x, he, _, hx, hget⟩ := hoa.sl.at_ (k := i) hil
  obtain rfl : ad = ⟨pb, 0, none⟩ := by injection he with he; exact he.symm
  rw [addN, Nat.zero_add] at hget
  obtain ⟨m', hm', hpl⟩ := hr.at_ hx
  rw [hi] at hm'; injection hm' with hm'; subst hm'
  have ehd : hd = ⟨some ⟨pb, 0, none⟩, M.l.length, c⟩ := by
    cases hd; unfold Hdr.val at hv; injection hv with e1 e2 e3; subst e1; subst e2; subst e3; rw [hr.len]
  have hob : hd.val.ownBlock = some pb := by rw [ehd]; rfl
  refine ⟨pb, c, r, x, by rw [← ehd]; exact hg, hget, hpl, hfr, .inr (.inr hob), fun e => hne (by rw [hob, e])⟩
theorem place_cells {w : World} {pb o : Nat} {x : GLedgerPlace} (h : get? GLedgerPlace w ⟨pb, o, none⟩ = some x) :
    w.cell? ⟨pb, o + 35, none⟩ = some (.int .i64 x.status) ∧ w.cell? ⟨pb, o + 36, none⟩ = some (.slice x.payload.a x.payload.len x.payload.cap) :=
  ⟨cell_off (by omega) (GLedgerPlace.at_status h), by simpa [Hdr.val] using cell_off (by omega) (GLedgerPlace.at_payload h)⟩
def stOpen (M : MLedger) (i : Int) : Bool := match M.l[i.toNat]? with | some x => decide (x.status = 1) | none => false
def nextB (M : MLedger) : Bool := inB M M.done && !stOpen M M.done
def NextIs (M : MLedger) (w : World) (e : Ending) (w' : World) : Prop := e = .returned (.tuple #[.int .i64 (if nextB M = true then M.done else 0), .bool (nextB M)]) ∧ ∃ n, w' = w.drewN n
set_option maxRecDepth 100000 in
theorem next_any (g : Nat) (S U : Nat → Prop) (M : MLedger) (w : World) (h : LedgerIs w g S U M) :
    Calls Try.prog 52 #[.pointer (some ⟨g, 0, none⟩)] w (NextIs M w) := by
  have H := Lib.hid h
  by_cases hin : inB M M.done = true
  · have hin2 : 0 ≤ M.done ∧ M.done < (M.l.length : Int) := by unfold inB at hin; simpa using hin
    obtain ⟨d, hd⟩ := Int.eq_ofNat_of_zero_le hin2.1
    obtain ⟨m, hm⟩ : ∃ m, M.l[d]? = some m := ⟨_, List.getElem?_eq_getElem (by omega)⟩
    obtain ⟨pb, c, r, x, hg, hx, hpl, _, _, _⟩ := h.place hm
    obtain ⟨_, _, f2, _, f4⟩ := ledger_cells hg
    obtain ⟨f5, _⟩ := place_cells hx
    have hdl : d < M.l.length := by omega
    obtain ⟨n, hn⟩ : ∃ n, M.l.length = n := ⟨_, rfl⟩
    simp only [hn, hd] at f2 f4
    rw [hpl.2.1] at f5
    rw [hn] at hdl
    obtain ⟨so, hso⟩ : ∃ b, stOpen M M.done = b := ⟨_, rfl⟩
    have hso2 : decide (m.status = 1) = so := by rw [← hso]; unfold stOpen; rw [hd, Int.toNat_natCast, hm]
    have HIN := Lib.hid (hd ▸ hin : inB M (d : Int) = true)
    have HN := Lib.hid (show nextB M = !so by unfold nextB; rw [hin, hso]; rfl)
    have HD := Lib.hid hd
    clear h hin hm hg hx hpl hso hn hd hin2
    cases so
    · have hne : ¬ m.status = 1 := by simpa using hso2
      have hb : (m.status == 1) = false := by simpa using hne
      clear hso2 hne
      go_enter Try.func52, Try.ntmps52
      go_wp2_with fail
      go_quiet ((go_at_call 85; exact Calls.quiet_of_same (flipC (in_is true g S U M _ _ HIN.out (H.out.bel (bdN (Below.refl _ _) _))))))
      go_wp2_with fail
      go_ret2
      exact ⟨by rw [HN.out]; simp [HD.out], _, rfl⟩
    · have hb : (m.status == 1) = true := by simpa using hso2
      clear hso2
      go_enter Try.func52, Try.ntmps52
      go_wp2_with fail
      go_quiet ((go_at_call 85; exact Calls.quiet_of_same (flipC (in_is true g S U M _ _ HIN.out (H.out.bel (bdN (Below.refl _ _) _))))))
      go_wp2_with fail
      go_ret2
      exact ⟨by rw [HN.out]; simp, _, rfl⟩
  · have hin1 : inB M M.done = false := by simpa using hin
    obtain ⟨hd, r, hg, hl⟩ := h.len
    obtain ⟨_, _, f2, _, f4⟩ := ledger_cells hg
    simp only at f2 f4
    have HIN := Lib.hid hin1
    have HN := Lib.hid (show nextB M = false by unfold nextB; rw [hin1]; rfl)
    clear h hin hg hl hin1
    go_enter Try.func52, Try.ntmps52
    go_wp2_with fail
    go_quiet ((go_at_call 85; exact Calls.quiet_of_same (flipC (in_is false g S U M _ _ HIN.out (H.out.bel (bdN (Below.refl _ _) _))))))
    go_wp2_with fail
    go_ret2
    exact ⟨by rw [HN.out]; simp, _, rfl⟩
end Go.Proofs.Yteockodnfempfaa
/- Bytes copied; a ledger's entries, names, payloads. Conditions: those named in each theorem. -/
namespace Go.Proofs.Yteockodnfempfaa
open Go Go.RowKit Go.Gv

/-- A slice of a call's own that reads as xs. -/
def OwnB (w : World) (base : Nat) (v : Value) (xs : List U8) : Prop := OwnS w base 5 v xs
set_option maxRecDepth 100000 in
theorem cloneB_any (A : Option Addr) (n k : Nat) (xs : List U8) (w : World) (hx : Sl U8 w w.heap.size A n xs) (hn : n ≤ 1000000) :
    Calls Try.prog 86 #[.slice A n k] w fun e w' => ∃ v, e = .returned v ∧ OwnB w' w.heap.size v xs ∧ Bel w w' := by
  have H := Lib.hid hx; have HN := Lib.hid hn; clear hx hn
  have hq : ∀ (w : World) (a : Option Addr) (n c : Nat), (binOp .eql 79 (.slice a n c) (.slice none 0 0)).run Try.prog w = .ok (.bool a.isNone) w := fun w a n c => Lib.run_eql_slice_nil w _ _ a n c 0 0 (Try.underlying79)
  cases A with
  | none =>
    have h0 : n = 0 := by
      rcases Nat.eq_zero_or_pos n with h | h
      · exact h
      · obtain ⟨ad, e, _⟩ := H.out.2 h; cases e
    subst h0
    have hbs : xs = [] := List.eq_nil_of_length_eq_zero H.out.1
    subst hbs
    go_enter Try.func86, Try.ntmps86
    go_wp2
    go_ret
    exact ⟨_, rfl, OwnS.nil _ _ _, Bel.refl _⟩
  | some ad =>
    go_enter Try.func86, Try.ntmps86
    go_wp2
    generalize hrun : Sem.run _ (gAppend _ _ _) _ = rr
    have ho0 : OwnS (w.alloc (.cells #[] 5)) w.heap.size 5 (.slice (some ⟨w.heap.size, 0, none⟩) 0 0) ([] : List U8) :=
      ⟨rfl, .inr ⟨w.heap.size, 0, #[], rfl, Nat.le_refl _, heap_alloc_new w _, Nat.le_refl _, Nat.zero_le _, rfl, rfl⟩⟩
    have hn := HN.out
    obtain ⟨v', w', rfl, ho, hg, hob⟩ := append_spec hrun ei79 ho0 (H.out.stepB ((Bel.refl w).alloc _)) (by simp only [List.length_nil]; unfold maxLen; omega) (by simp only [List.length_nil]; omega) (by simp)
    clear hrun hn
    have hbel : Bel w w' := ((Bel.refl w).alloc _).appS hg ho0 (Nat.le_refl _)
    clear ho0 hg hob
    have HO := Lib.hid ho; have HB := Lib.hid hbel
    clear ho hbel
    go_wp2
    go_ret
    exact ⟨_, rfl, HO.out, HB.out⟩
theorem copyB_any (A : Option Addr) (n c : Nat) (xs : List U8) (w : World) (B : Nat) (hx : Sl U8 w B A n xs) (hn : n * 1 ≤ 140737488355328) :
    Calls Try.prog 84 #[.slice A n c] w fun e w' => ∃ v, e = .returned v ∧ OwnB w' w.heap.size v xs ∧ Bel w w' := by
  have H := Lib.hid hx; clear hx
  obtain ⟨v', w', hrun, ho, hg, _⟩ := gAppend_S (P := Try.prog) ei79 (OwnS.nil (α := U8) w w.heap.size 5) (c := c) H.out (by unfold maxLen; simp; omega) (by simp; omega) (Nat.le_refl _) 79
  have HO := Lib.hid ho; have HG := Lib.hid (Gv.Below.appS (Below.refl w.heap.size w) hg (OwnS.nil (α := U8) w w.heap.size 5) (Nat.le_refl _) (Nat.le_refl _))
  clear ho hg
  go_enter Try.func84, Try.ntmps84
  go_wp2
  go_ret
  exact ⟨_, rfl, by have := HO.out; rw [List.nil_append] at this; exact this, HG.out⟩
theorem cutB_any (A : Option Addr) (n c q : Nat) (xs : List U8) (w : World) (B : Nat) (hx : Sl U8 w B A n xs) (hn : n ≤ c) (hc : c ≤ maxLen) (hq : q ≤ 1000000) :
    Calls Try.prog 48 #[.slice A n c, .int .i64 q] w fun e w' => ∃ v, e = .returned v ∧ OwnB w' w.heap.size v (xs.take q) ∧ Bel w w' := by
  unfold maxLen at hc
  have H := Lib.hid (hx.take (Nat.min_le_left n q))
  have e0 : xs.take (min n q) = xs.take q := by
    have := hx.1
    rw [← List.take_take, List.take_of_length_le (i := n) (by simp; omega)]
  rw [e0] at H
  clear hx e0
  have hmin : min n q ≤ 1000000 := by omega
  have hc2 : min n q ≤ c := by omega
  go_enter Try.func48, Try.ntmps48
  go_wp2_with fail
  refine (copyB_any _ _ _ _ _ _ H.out (by omega)).mono ?_
  rintro _ w1 ⟨v, rfl, ho, hb⟩
  have HO := Lib.hid ho; have HB := Lib.hid hb; clear ho hb
  go_wp2_with fail
  go_ret
  exact ⟨_, rfl, HO.out, HB.out⟩
set_option maxHeartbeats 400000 in
theorem sameBytes_any (A B : Option Addr) (n m c d : Nat) (xs ys : List U8) (w : World) (B0 : Nat) (hx : Sl U8 w B0 A n xs) (hy : Sl U8 w B0 B m ys) (hn : n ≤ maxLen) (hm : m ≤ maxLen) :
    Calls Try.prog 50 #[.slice A n c, .slice B m d] w fun e w' => e = .returned (.bool (sameB xs ys)) ∧ ∃ n, w' = w.drewN n := by
  unfold maxLen at hn hm
  have H := Lib.hid hx; have H2 := Lib.hid hy
  clear hx hy
  by_cases hne : n = m
  · obtain rfl : m = n := hne.symm
    clear hne
    go_enter Try.func50, Try.ntmps50
    go_wp2
    go_loopw [5] (fun i wr => ∃ k : Nat, k ≤ m ∧ i = .int .i64 k ∧ xs.take k = ys.take k ∧ ∃ q, wr = w.drewN q) (fun i _ => m - (intOf i).toNat)
    case atStart => exact ⟨0, by omega, rfl, by simp, 0, rfl⟩
    case round =>
      obtain ⟨k, hk, rfl, heq, q, rfl⟩ := hrel
      have HE := Lib.hid heq; clear heq
      by_cases hlt : k < m
      · obtain ⟨ad, x, rfl, _, hxk, hgx⟩ := H.out.at_ (k := k) (by omega)
        obtain ⟨bd, y, rfl, _, hyk, hgy⟩ := H2.out.at_ (k := k) (by omega)
        have hc1 : w.cell? (ad.add k) = some (.int .u8 (x.v.toNat : Int)) := by have := get1 (x := x) rfl hgx; rw [show Enc.n U8 = 1 from rfl, Nat.mul_one] at this; exact this
        have hc2 : w.cell? (bd.add k) = some (.int .u8 (y.v.toNat : Int)) := by have := get1 (x := y) rfl hgy; rw [show Enc.n U8 = 1 from rfl, Nat.mul_one] at this; exact this
        have HX := Lib.hid hxk; have HY := Lib.hid hyk; clear hxk hyk hgx hgy
        by_cases hxy : x = y
        · have hb : ((x.v.toNat : Int) != (y.v.toNat : Int)) = false := by rw [hxy]; simp
          have HXY := Lib.hid hxy; clear hxy
          go_wp2
          go_quiet (fail)
          go_wp2
          go_roundw
          case rel => exact ⟨k + 1, by omega, by go_num, take_step HE.out HX.out HY.out HXY.out, _, rfl⟩
          case measure => simp [intOf] <;> omega
        · have hb : ((x.v.toNat : Int) != (y.v.toNat : Int)) = true := by
            rw [bne_iff_ne]
            intro e
            apply hxy
            have : x.v = y.v := UInt8.toNat_inj.1 (by omega)
            cases x; cases y; simp at this; rw [this]
          have HXY := Lib.hid hxy; clear hxy
          go_wp2
          go_quiet (fail)
          go_wp2
          go_ret
          exact ⟨ret_bool (sameB_no HX.out HY.out HXY.out).symm, drewN2 _ _ _⟩
      · go_wp2
        go_ret
        refine ⟨ret_bool ?_, q, rfl⟩
        unfold sameB
        have e := HE.out
        rw [List.take_of_length_le (by have := H.out.1; omega), List.take_of_length_le (by have := H2.out.1; omega)] at e
        rw [e]; simp
  · have hb : ((n : Int) != (m : Int)) = true := by rw [bne_iff_ne]; omega
    go_enter Try.func50, Try.ntmps50
    go_wp2
    go_ret
    refine ⟨ret_bool ?_, 0, rfl⟩
    unfold sameB
    symm; rw [decide_eq_false_iff_not]
    intro e; have h1 := H.out.1; have h2 := H2.out.1; rw [e] at h1; omega
end Go.Proofs.Yteockodnfempfaa
/- Entries, names, payloads of a ledger; a place done. Conditions: those named in each theorem. -/
namespace Go.Proofs.Yteockodnfempfaa
open Go Go.RowKit Go.Gv

def entryR (M : MLedger) (i : Int) : GEntry := if inB M i = true then ((M.l[i.toNat]?).map (·.e)).getD default else default
def EntryIs (M : MLedger) (i : Int) (w : World) (e : Ending) (w' : World) : Prop := e = .returned (.tuple #[(entryR M i).val, .bool (inB M i)]) ∧ Bel w w'
theorem inB_at {M : MLedger} {i : Int} (h : inB M i = true) : ∃ (d : Nat) (m : MPlace), i = d ∧ M.l[d]? = some m ∧ d < M.l.length := by
  have h2 : 0 ≤ i ∧ i < (M.l.length : Int) := by unfold inB at h; simpa using h
  obtain ⟨d, hd⟩ := Int.eq_ofNat_of_zero_le h2.1
  have : d < M.l.length := by omega
  exact ⟨d, M.l[d], hd, List.getElem?_eq_getElem this, this⟩
@[go_sem ↓ high] theorem build_entry_none (w : World) : (gBuild 30 #[]).run Try.prog w = .ok (GEntry.val default) w := by
  rw [GEntry.val_eq]
  exact run_gBuild_of uu30 zr30 pl30 rfl w
set_option maxRecDepth 100000 in
theorem entry_any (g : Nat) (S U : Nat → Prop) (M : MLedger) (i : Int) (w : World) (h : LedgerIs w g S U M) :
    Calls Try.prog 51 #[.pointer (some ⟨g, 0, none⟩), .int .i64 i] w (EntryIs M i w) := by
  have H := Lib.hid h
  by_cases hin : inB M i = true
  · obtain ⟨d, m, rfl, hm, hdl⟩ := inB_at hin
    obtain ⟨pb, c, r, x, hg, hx, hpl, _, _, _⟩ := h.place hm
    have hgA : ∀ o, get? GLedgerLedger (w.alloc o) ⟨g, 0, none⟩ = some ⟨M.epoch, M.last, ⟨some ⟨pb, 0, none⟩, M.l.length, c⟩, some r, M.done⟩ := fun o => get?_alloc o hg
    have f2 : ∀ o, (w.alloc o).cell? ⟨g, 2, none⟩ = some (.slice (some ⟨pb, 0, none⟩) M.l.length c) := fun o => (ledger_cells (hgA o)).2.2.1
    have he : ∀ o, get? GEntry (w.alloc o) ⟨pb, d * 37, none⟩ = some m.e := fun o => by
      have := GLedgerPlace.at_e (get?_alloc o hx)
      rw [Addr.add_zero'] at this
      rw [this, hpl.1]
    have HE := Lib.hid (show entryR M (d : Int) = m.e by unfold entryR; rw [if_pos hin, Int.toNat_natCast, hm]; rfl)
    have HIN := Lib.hid hin
    obtain ⟨n, hn⟩ : ∃ n, M.l.length = n := ⟨_, rfl⟩
    rw [hn] at hdl
    simp only [hn] at f2
    clear h hin hm hg hx hpl hgA hn
    go_enter Try.func51, Try.ntmps51
    go_wp2_with fail
    refine (in_is true g S U M _ _ HIN.out (H.out.bel ((Bel.refl _).alloc _))).mono ?_
    rintro _ w1 ⟨rfl, rfl⟩
    go_wp2_with fail
    refine bodyPost_ret (results_cell_tmp (x := m.e) rfl rfl ag30 sz30 (nw30 w w.heap.size m.e rfl)) rfl ⟨?_, (Bel.refl w).alloc _⟩
    rw [HE.out, HIN.out, GEntry.val_eq]; rfl
  · have hin1 : inB M i = false := by simpa using hin
    have HE := Lib.hid (show entryR M i = default by unfold entryR; rw [if_neg hin])
    have HIN := Lib.hid hin1
    clear h hin hin1
    go_enter Try.func51, Try.ntmps51
    go_wp2_with fail
    refine (in_is false g S U M _ _ HIN.out (H.out.bel ((Bel.refl _).alloc _))).mono ?_
    rintro _ w1 ⟨rfl, rfl⟩
    go_wp2_with fail
    refine bodyPost_ret (results_cell_tmp (x := (default : GEntry)) rfl rfl ag30 sz30 (nw30 w w.heap.size default rfl)) rfl ⟨?_, (Bel.refl w).alloc _⟩
    rw [HE.out, HIN.out, GEntry.val_eq]; rfl
theorem mget_mem {K V : Type} [DecidableEq K] : ∀ {m : List (K × V)}, (m.map (·.1)).Nodup → ∀ {k : K} {v : V}, mget m k = some v ↔ (k, v) ∈ m
  | [], _, k, v => by simp [mget_nil]
  | p :: m, hn, k, v => by
    rw [List.map_cons, List.nodup_cons] at hn
    rw [mget_cons, List.mem_cons]
    by_cases e : p.1 = k
    · rw [if_pos e]
      constructor
      · intro h; injection h with h; left; rw [← e, ← h]
      · rintro (h | h)
        · rw [← h]
        · exact absurd (List.mem_map.2 ⟨_, h, e.symm⟩) hn.1
    · rw [if_neg e, mget_mem hn.2]
      constructor
      · exact .inr
      · rintro (h | h)
        · exact absurd (by rw [← h]) e
        · exact h
theorem mget_perm {K V : Type} [DecidableEq K] {m n : List (K × V)} (h : m.Perm n) (hn : (m.map (·.1)).Nodup) (k : K) : mget m k = mget n k := by
  have hn2 : (n.map (·.1)).Nodup := (h.map _).nodup_iff.1 hn
  cases hm : mget m k with
  | some v => exact ((mget_mem hn2).2 (h.mem_iff.1 ((mget_mem hn).1 hm))).symm
  | none =>
    cases hq : mget n k with
    | none => rfl
    | some v => have := (mget_mem hn).2 (h.mem_iff.2 ((mget_mem hn2).1 hq)); rw [hm] at this; cases this
def indexR (M : MLedger) (k : GName) : Option Int := mget (namesOf M.l) k
def IndexIsL (M : MLedger) (k : GName) (w : World) (e : Ending) (w' : World) : Prop := e = .returned (.tuple #[.int .i64 ((indexR M k).getD 0), .bool (indexR M k).isSome]) ∧ Bel w w'
set_option maxRecDepth 100000 in
theorem index_any (g : Nat) (S U : Nat → Prop) (M : MLedger) (k : GName) (w : World) (h : LedgerIs w g S U M) :
    Calls Try.prog 55 #[.pointer (some ⟨g, 0, none⟩), k.val] w (IndexIsL M k w) := by
  obtain ⟨hd, r, ps, nm, rfl, hSU, hg, hf, ho, hne, hr, hm, hp⟩ := h
  have f3 : ∀ o, (w.alloc o).cell? ⟨g, 3, none⟩ = some (.map (some r)) := fun o => (ledger_cells (get?_alloc o hg)).2.2.2.1
  have hmA : ∀ o, mapAt GName Int (w.alloc o) r = some nm := fun o => mapAt_alloc o hm
  have HI := Lib.hid (show mget nm k = indexR M k from mget_perm hp (mapAt_nodup hm) k)
  clear hg hf ho hne hr hm hp hSU
  obtain ⟨a, ha⟩ : ∃ a, mget nm k = a := ⟨_, rfl⟩
  rw [ha] at HI
  go_enter Try.func55, Try.ntmps55
  go_wp2_with fail
  go_quiet (fail)
  go_wp2_with fail
  go_ret2
  exact ⟨by rw [← HI.out]; cases a <;> rfl, ((Bel.refl w).alloc _).drewN _⟩
def statusR (M : MLedger) (i : Int) : Int := if inB M i = true then ((M.l[i.toNat]?).map (·.status)).getD 0 else 0
def payR (M : MLedger) (i : Int) : List U8 := if inB M i = true then ((M.l[i.toNat]?).map (·.pay)).getD [] else []
def StatusIs (M : MLedger) (i : Int) (w : World) (e : Ending) (w' : World) : Prop := ∃ v, e = .returned (.tuple #[.int .i64 (statusR M i), v]) ∧ OwnB w' w.heap.size v (payR M i) ∧ Bel w w'
set_option maxRecDepth 100000 in
theorem status_any (g : Nat) (S U : Nat → Prop) (M : MLedger) (i : Int) (w : World) (h : LedgerIs w g S U M) (hpay : ∀ m ∈ M.l, m.pay.length ≤ 1000000) :
    Calls Try.prog 49 #[.pointer (some ⟨g, 0, none⟩), .int .i64 i] w (StatusIs M i w) := by
  have H := Lib.hid h
  by_cases hin : inB M i = true
  · obtain ⟨d, m, rfl, hm, hdl⟩ := inB_at hin
    obtain ⟨pb, c, r, x, hg, hx, hpl, _, _, _⟩ := h.place hm
    obtain ⟨_, _, f2, _, _⟩ := ledger_cells hg
    obtain ⟨f5, f6⟩ := place_cells hx
    rw [hpl.2.1] at f5
    have hln := hpay m (List.mem_of_getElem? hm)
    rw [hpl.2.2.1.1] at hln
    have HP := Lib.hid hpl.2.2.1
    have HST := Lib.hid (show statusR M (d : Int) = m.status by unfold statusR; rw [if_pos hin, Int.toNat_natCast, hm]; rfl)
    have HPY := Lib.hid (show payR M (d : Int) = m.pay by unfold payR; rw [if_pos hin, Int.toNat_natCast, hm]; rfl)
    have HIN := Lib.hid hin
    obtain ⟨n, hn⟩ : ∃ n, M.l.length = n := ⟨_, rfl⟩
    rw [hn] at hdl
    simp only [hn] at f2
    clear h hin hm hg hx hpl hn hpay
    go_enter Try.func49, Try.ntmps49
    go_wp2_with fail
    refine (in_is true g S U M _ _ HIN.out H.out).mono ?_
    rintro _ w1 ⟨rfl, rfl⟩
    go_wp2_with fail
    refine wp_region_G GB [] GB.rf (by kernel_rfl) ?_
    refine wpG_looks 3 19 [0,1,2,3,4,5,6,7,8,9,10,11,12,13,14,15] rfl GB.rf GB.tr (by kernel_rfl) (fun _ _ _ _ hd h => And.intro (hd ▸ And.left h) (And.right h)) rfl (by kernel_rfl) ?_
    intro ι W hne CW
    have g2 : ∀ z, (W z).cell? ⟨g, 2, none⟩ = some (.slice (some ⟨pb, 0, none⟩) n c) := fun z => (CW.out z).cell f2
    have g5 : ∀ z, (W z).cell? ⟨pb, d * 37 + 35, none⟩ = some (.int .i64 m.status) := fun z => (CW.out z).cell f5
    have g6 : ∀ z, (W z).cell? ⟨pb, d * 37 + 36, none⟩ = some (.slice x.payload.a x.payload.len x.payload.cap) := fun z => (CW.out z).cell f6
    have hd1 : (d : Int) < (n : Int) := by omega
    have hd0 : (0 : Int) ≤ (d : Int) := by omega
    repeat (refine wpLooksG_step (fun K hK => ?_); go_simp; refine hK _ ?_; clear hK K)
    refine wpLooksG_nil ?_
    clear g2 g5 g6 CW hne W ι
    refine wpG_force 16 _ rfl (by kernel_rfl) rfl fun wa hwa K hK => ?_
    go_simp
    refine (cloneB_any x.payload.a x.payload.len x.payload.cap m.pay wa (HP.out.stepB hwa.undrew) hln).mono ?_
    rintro _ wb ⟨v, rfl, ho, hb⟩
    have HO := Lib.hid (OwnS.mono ho hwa.undrew.size); have HB := Lib.hid (hwa.undrew.trans hb)
    refine hK _ _ (fun _ => hb) ?_
    clear hK K ho hb
    refine wpG_force 17 _ rfl (by kernel_rfl) rfl fun wc hwc K hK => ?_
    go_simp
    refine hK _ _ (fun _ => GB.rf _) ?_
    clear hK K
    refine wpG_force 18 _ rfl (by kernel_rfl) rfl fun wd hwd K hK => ?_
    go_simp
    refine hK _ _ (fun _ => GB.rf _) ?_
    clear hK K
    refine wpG_end (by kernel_rfl) (fun wn hwn => ?_) _
    have HB2 := Lib.hid (show Bel wb wn from Bel.trans (Bel.trans hwc hwd) hwn)
    clear hwc hwd hwn
    go_wp2
    go_ret2
    exact ⟨v, by rw [HST.out]; rfl, by rw [HPY.out]; exact OwnS.step HO.out HB2.out, HB.out.trans HB2.out⟩
  · have hin1 : inB M i = false := by simpa using hin
    have HST := Lib.hid (show statusR M i = 0 by unfold statusR; rw [if_neg hin])
    have HPY := Lib.hid (show payR M i = [] by unfold payR; rw [if_neg hin])
    have HIN := Lib.hid hin1
    clear h hin hin1 hpay
    go_enter Try.func49, Try.ntmps49
    go_wp2_with fail
    refine (in_is false g S U M _ _ HIN.out H.out).mono ?_
    rintro _ w1 ⟨rfl, rfl⟩
    go_wp2_with fail
    go_ret2
    exact ⟨_, by rw [HST.out]; rfl, by rw [HPY.out]; exact OwnS.nil _ _ _, Bel.refl _⟩
end Go.Proofs.Yteockodnfempfaa
/- A place done; what becomes of a place that is open. Conditions: those named in each theorem. -/
namespace Go.Proofs.Yteockodnfempfaa
open Go Go.RowKit Go.Gv

theorem Chg.setCell {S : Nat → Prop} {w : World} {p : Addr} (hp : S p.block) (u : Value) : Chg S w (w.setCell p u) :=
  ⟨rfl, rfl, rfl, by simp, fun k _ hn => Below.heap_setCell _ _ _ _ (fun e => hn (e ▸ hp))⟩
theorem LedgerIs.field {w : World} {g : Nat} {S U : Nat → Prop} {M M' : MLedger} (h : LedgerIs w g S U M) (hl : M'.l = M.l) {j : Nat} {v : Value}
    (he : ∀ hd r, Enc.enc (⟨M'.epoch, M'.last, hd, some r, M'.done⟩ : GLedgerLedger) = (Enc.enc (⟨M.epoch, M.last, hd, some r, M.done⟩ : GLedgerLedger)).set j v) :
    LedgerIs (w.setCell ⟨g, j, none⟩ v) g S U M' ∧ Chg S w (w.setCell ⟨g, j, none⟩ v) := by
  obtain ⟨hd, r, ps, nm, rfl, hSU, hg, hf, ho, hne, hr, hm, hp⟩ := h
  have hc : Chg (fun k => k = g) w (w.setCell ⟨g, j, none⟩ v) := Chg.setCell (S := fun k => k = g) (p := ⟨g, j, none⟩) rfl v
  refine ⟨⟨hd, r, ps, nm, rfl, ⟨hSU.1, by simpa using hSU.2⟩, get?_poke hg (he hd r), by rw [blkFree_setCell]; exact hf, ho.chg hc (fun k hk e => hne (by rw [hk, e])), hne, ?_, mapAt_setCell _ _ hm, by rw [hl]; exact hp⟩, Chg.setCell (p := ⟨g, j, none⟩) (.inl rfl) v⟩
  rw [hl]
  exact hr.mono fun a b hab => ⟨hab.1, hab.2.1, hab.2.2.chg hc (fun k hk e => hk.2 (.inl e))⟩
def doneL (M : MLedger) : MLedger := if nextB M = true then { M with done := M.done + 1 } else M
def DoneIs (g : Nat) (S U : Nat → Prop) (M : MLedger) (w : World) (e : Ending) (w' : World) : Prop := e = .returned (.bool (nextB M)) ∧ LedgerIs w' g S U (doneL M) ∧ Chg S w w'
set_option maxRecDepth 100000 in
theorem done_any (g : Nat) (S U : Nat → Prop) (M : MLedger) (w : World) (h : LedgerIs w g S U M) (hlen : M.l.length ≤ maxLen) :
    Calls Try.prog 53 #[.pointer (some ⟨g, 0, none⟩)] w (DoneIs g S U M w) := by
  unfold maxLen at hlen
  obtain ⟨b, hb⟩ : ∃ b, nextB M = b := ⟨_, rfl⟩
  have H := Lib.hid h; have HB := Lib.hid hb
  go_enter Try.func53, Try.ntmps53
  cases b
  · clear hb
    go_wp2_with fail
    refine (next_any g S U M _ H.out).mono ?_
    rintro _ w1 ⟨rfl, n, rfl⟩
    rw [HB.out]
    go_wp2_with fail
    go_ret
    exact ⟨by rw [HB.out]; rfl, by unfold doneL; rw [if_neg (by rw [HB.out]; decide)]; exact H.out.bel (bdN (Below.refl _ _) n), Chg.of_bel (bdN (Below.refl _ _) n) S⟩
  · have hin : inB M M.done = true := by unfold nextB at hb; simp at hb; exact hb.1
    obtain ⟨d, m, hd, hm, hdl⟩ := inB_at hin
    obtain ⟨hh, r, hg, hl⟩ := h.len
    obtain ⟨_, _, _, _, f4⟩ := ledger_cells hg
    have hfr : blkFree w g = true := by obtain ⟨_, _, _, _, _, _, _, hf, _⟩ := h; exact hf
    simp only [hd] at f4
    have f4A : ∀ n, (w.drewN n).cell? ⟨g, 4, none⟩ = some (.int .i64 (d : Int)) := fun n => f4
    have hfz : ∀ n, (w.drewN n).frozen? ⟨g, 4, none⟩ = false := fun n => frozen_of_free (a := ⟨g, 4, none⟩) hfr
    have HD := Lib.hid hd
    have hfin := fun n => LedgerIs.field (M' := doneL M) (h.bel (bdN (Below.refl _ _) n : Bel w (w.drewN n))) (by unfold doneL; split <;> rfl) (j := 4) (v := .int .i64 ((d : Int) + 1)) (fun hd' r' => by unfold doneL; rw [if_pos hb]; simp only [hd]; rfl)
    have HF := Lib.hid hfin
    clear hb hin hm hg hl f4 hd hfin h hfr
    go_wp2_with fail
    refine (next_any g S U M _ H.out).mono ?_
    rintro _ w1 ⟨rfl, n, rfl⟩
    rw [HB.out]
    go_wp2_with fail
    go_ret
    exact ⟨by rw [HB.out]; rfl, (HF.out n).1, (Chg.of_bel (bdN (Below.refl _ _) n) S).tr (HF.out n).2⟩
end Go.Proofs.Yteockodnfempfaa
/- What becomes of a place that is open. Conditions: those named in each theorem. -/
namespace Go.Proofs.Yteockodnfempfaa
open Go Go.RowKit Go.Gv

theorem Chg.sub {S S' : Nat → Prop} {w w' : World} (h : Chg S w w') (hS : ∀ k, S k → S' k) : Chg S' w w' := ⟨h.os, h.tape, h.output, h.size, fun k hk hn => h.block k hk (fun hs => hn (hS k hs))⟩
theorem place_status (x : GLedgerPlace) (st : Int) : Enc.enc (⟨x.e, st, x.payload⟩ : GLedgerPlace) = (Enc.enc x).set 35 (.int .i64 st) := by
  change GLedgerPlace.enc _ = (GLedgerPlace.enc x).set 35 _
  unfold GLedgerPlace.enc
  rw [List.set_append_right _ _ (by rw [GEntry.enc_len]; omega), GEntry.enc_len]
  rfl
theorem place_payload (x : GLedgerPlace) (h : Hdr) : Enc.enc (⟨x.e, x.status, h⟩ : GLedgerPlace) = (Enc.enc x).set 36 h.val := by
  change GLedgerPlace.enc _ = (GLedgerPlace.enc x).set 36 _
  unfold GLedgerPlace.enc
  rw [List.set_append_right _ _ (by rw [GEntry.enc_len]; omega), GEntry.enc_len]
  rfl
theorem namesFrom_set : ∀ (l : List MPlace) (i d : Nat) (m m' : MPlace), l[d]? = some m → m'.e = m.e → namesFrom i (l.set d m') = namesFrom i l
  | [], _, _, _, _, h, _ => by simp at h
  | x :: l, i, 0, m, m', h, e => by simp at h; subst h; simp only [List.set_cons_zero, namesFrom, e]
  | x :: l, i, d + 1, m, m', h, e => by simp only [List.set_cons_succ, namesFrom]; rw [namesFrom_set l (i + 1) d m m' (by simpa using h) e]
/-- What a ledger's block says of its places. -/
def HdAt (w : World) (g pb : Nat) (M : MLedger) : Prop := ∃ c r, get? GLedgerLedger w ⟨g, 0, none⟩ = some ⟨M.epoch, M.last, ⟨some ⟨pb, 0, none⟩, M.l.length, c⟩, some r, M.done⟩
/-- A ledger one cell of whose places is written. -/
theorem LedgerIs.poke1 {w : World} {g : Nat} {S U U' : Nat → Prop} {M : MLedger} (h : LedgerIs w g S U M) {d j : Nat} {m m' : MPlace} (hm : M.l[d]? = some m) {v : Value} {pb : Nat} (hj : j < 37)
    (hpb : HdAt w g pb M) (hU : ∀ k, U k → U' k) (hU' : ∀ k, U' k → k < w.heap.size) (he : m'.e = m.e)
    (hy : ∀ x, PlaceIs (fun k => U k ∧ ¬ S k) w x m → S pb → ∃ y : GLedgerPlace, Enc.enc y = (Enc.enc x).set j v ∧ PlaceIs (fun k => U' k ∧ ¬ S k) (w.setCell ⟨pb, d * 37 + j, none⟩ v) y m') :
    LedgerIs (w.setCell ⟨pb, d * 37 + j, none⟩ v) g S U' { M with l := M.l.set d m' } ∧ Chg S w (w.setCell ⟨pb, d * 37 + j, none⟩ v) ∧ HdAt (w.setCell ⟨pb, d * 37 + j, none⟩ v) g pb { M with l := M.l.set d m' } := by
  obtain ⟨c, r', hpb⟩ := hpb
  obtain ⟨hd, r, ps, nm, rfl, hSU, hg, hf, ho, hne, hr, hmp, hpm⟩ := h
  have hpb0 := hpb
  rw [hg] at hpb
  injection hpb with hpb
  injection hpb with _ _ ehd er _
  have hob : hd.val.ownBlock = some pb := by rw [ehd]; rfl
  have hdl : d < ps.length := by rw [hr.len]; exact (List.getElem?_eq_some_iff.1 hm).1
  obtain ⟨x, hx⟩ : ∃ x, ps[d]? = some x := ⟨_, List.getElem?_eq_getElem hdl⟩
  obtain ⟨m0, hm0, hpl⟩ := hr.at_ hx
  rw [hm] at hm0; injection hm0 with hm0; subst hm0
  obtain ⟨y, hye, hyp⟩ := hy x hpl (.inr (.inr hob))
  have hv2 : hd.val = .slice (some ⟨pb, 0, none⟩) ps.length c := by rw [ehd, hr.len]; rfl
  have ho2 : OwnA w 0 169 (some ⟨pb, 0, none⟩) c ps := by unfold OwnA; rw [← hv2]; exact ho
  have hc : Chg (fun k => k = pb) w (w.setCell ⟨pb, d * 37 + j, none⟩ v) := Chg.setCell (S := fun k => k = pb) (p := ⟨pb, d * 37 + j, none⟩) rfl _
  have ho3 := OwnA.poke (j := j) (y := y) (v := v) ho2 hx hj hye
  have hlen : (ps.set d y).length = ps.length := List.length_set
  have hgn : get? GLedgerLedger (w.setCell ⟨pb, d * 37 + j, none⟩ v) ⟨g, 0, none⟩ = some ⟨M.epoch, M.last, hd, some r, M.done⟩ := hc.get hg (fun e => hne (by rw [hob]; exact congrArg some (Eq.symm e)))
  refine ⟨⟨hd, r, ps.set d y, nm, rfl, ⟨fun k hk => hU k (hSU.1 k hk), fun k hk => Nat.lt_of_lt_of_le (hU' k hk) hc.size⟩, hgn, ?_, ?_, hne, ?_, ?_, ?_⟩, hc.sub (fun k e => .inr (.inr (by rw [hob, e]))), ⟨c, r, ?_⟩⟩
  · exact hc.free hf (get?_lt hg) (fun e => hne (by rw [hob, e]))
  · have := ho3
    unfold OwnA at this
    rw [hlen] at this
    rw [hv2]
    exact this
  · have hr2 : R2 (PlaceIs (fun k => U' k ∧ ¬ footL g r hd k) (w.setCell ⟨pb, d * 37 + j, none⟩ v)) ps M.l :=
      hr.mono fun a b hab => ⟨hab.1, hab.2.1, (hab.2.2.chg hc (fun k hk e => hk.2 (.inr (.inr (by rw [hob, e]))))).mono (fun k _ hk => ⟨hU k hk.1, hk.2⟩)⟩
    exact hr2.set hyp d
  · exact hc.map hmp (fun e => by
      obtain ⟨es, ck, hb, _⟩ := mapAt_iff.1 hmp
      rcases ho2 with ⟨_, ⟨hh, _⟩ | ⟨g', cap, cur, hh, _, hb2, _⟩⟩
      · cases hh
      · injection hh with hh _ _; injection hh with hh; injection hh with hh; subst hh
        rw [e, hb2] at hb; cases hb)
  · show nm.Perm (namesOf (M.l.set d m'))
    unfold namesOf
    rw [namesFrom_set M.l 0 d m m' hm he]
    exact hpm
  · rw [hgn, ehd]
    simp
theorem HdAt.bel {w w' : World} {g pb : Nat} {M : MLedger} (h : HdAt w g pb M) (hb : Bel w w') : HdAt w' g pb M := by
  obtain ⟨c, r, h⟩ := h
  exact ⟨c, r, GB.get hb h⟩
theorem bodyPost_pan {P : Program} {fn : Func} {R : Ending → World → Prop} (c) (a a' : Act) (w : World) (hd : a.defers = a'.defers) (h : bodyPost P fn R (.panic c) a w) : bodyPost P fn R (.panic c) a' w := And.intro (hd ▸ And.left h) (And.right h)
def endM (M : MLedger) (i st : Int) (pay : List U8) : MLedger :=
  if inB M i = true ∧ stOpen M i = true then (match M.l[i.toNat]? with | some m => { M with l := M.l.set i.toNat ⟨m.e, st, pay⟩ } | none => M) else M
def Ended (g : Nat) (S U : Nat → Prop) (M : MLedger) (i st : Int) (pay : List U8) (w : World) (e : Ending) (w' : World) : Prop :=
  e = .returned (.tuple #[]) ∧ ∃ U' : Nat → Prop, LedgerIs w' g S U' (endM M i st pay) ∧ (∀ k, U' k → U k ∨ w.heap.size ≤ k) ∧ Chg S w w'
set_option maxRecDepth 100000 in
set_option maxHeartbeats 1000000 in
theorem end_any' (g : Nat) (S U : Nat → Prop) (M : MLedger) (i st : Int) (A : Option Addr) (n c : Nat) (pay : List U8) (w : World) (h : LedgerIs w g S U M) (hx : Sl U8 w w.heap.size A n pay) (hn : n ≤ 1000000) :
    Calls Try.prog 81 #[.pointer (some ⟨g, 0, none⟩), .int .i64 i, .int .i64 st, .slice A n c] w (Ended g S U M i st pay w) := by
  have H := Lib.hid h
  have HX := Lib.hid hx; clear hx
  by_cases hin : inB M i = true
  · obtain ⟨d, m, rfl, hm, hdl⟩ := inB_at hin
    obtain ⟨pb, cc, r, x, hg, hgx, hpl, hfr, hSp, hpg⟩ := h.place hm
    obtain ⟨_, _, f2, _, _⟩ := ledger_cells hg
    obtain ⟨f5, f6⟩ := place_cells hgx
    rw [hpl.2.1] at f5
    have HPB := Lib.hid (show HdAt w g pb M from ⟨cc, r, hg⟩)
    have HIN := Lib.hid hin; have HM := Lib.hid hm
    obtain ⟨so, hso⟩ : ∃ b, stOpen M (d : Int) = b := ⟨_, rfl⟩
    have hso2 : decide (m.status = 1) = so := by rw [← hso]; unfold stOpen; rw [Int.toNat_natCast, hm]
    have HSO := Lib.hid hso
    obtain ⟨q, hq⟩ : ∃ n, M.l.length = n := ⟨_, rfl⟩
    rw [hq] at hdl
    simp only [hq] at f2
    have hpbl : pb < w.heap.size := h.lt pb hSp
    have hgl : g < w.heap.size := get?_lt hg
    have HSP := Lib.hid hSp
    clear h hin hm hg hgx hpl hso hq
    cases so
    · have hb : (m.status == 1) = false := by simpa using hso2
      clear hso2
      go_enter Try.func81, Try.ntmps81
      go_wp2_with fail
      refine (in_is true g S U M _ _ HIN.out H.out).mono ?_
      rintro _ w1 ⟨rfl, rfl⟩
      go_wp2_with fail
      go_end0
      refine ⟨rfl, U, ?_, fun k hk => .inl hk, Chg.refl _ _⟩
      unfold endM
      rw [if_neg (by rw [HSO.out]; simp)]
      exact H.out
    · have hb : (m.status == 1) = true := by simpa using hso2
      clear hso2
      have hfin : endM M (d : Int) st pay = { M with l := M.l.set d ⟨m.e, st, pay⟩ } := by
        unfold endM
        rw [if_pos ⟨HIN.out, HSO.out⟩, Int.toNat_natCast, HM.out]
      have HF := Lib.hid hfin; clear hfin
      go_enter Try.func81, Try.ntmps81
      go_wp2_with fail
      refine (in_is true g S U M _ _ HIN.out H.out).mono ?_
      rintro _ w1 ⟨rfl, rfl⟩
      go_wp2_with fail
      refine wp_region_G GB [15, 18] GB.rf (by kernel_rfl) ?_
      refine wpG_move 9 _ _ rfl rfl rfl GB.rf GB.tr (by kernel_rfl) bodyPost_pan (by kernel_rfl) ?_
      refine wpG_looks 7 18 [0,1,2,3,4,5,6,7,8,10,11] rfl GB.rf GB.tr (by kernel_rfl) bodyPost_pan rfl (by kernel_rfl) ?_
      intro ι W hne CW
      have g2 : ∀ z, (W z).cell? ⟨g, 2, none⟩ = some (.slice (some ⟨pb, 0, none⟩) q cc) := fun z => (CW.out z).cell f2
      have hd1 : (d : Int) < (q : Int) := by omega
      have hd0 : (0 : Int) ≤ (d : Int) := by omega
      repeat (refine wpLooksG_step (fun K hK => ?_); go_simp; refine hK _ ?_; clear hK K)
      refine wpLooksG_nil ?_
      clear g2 CW hne W ι
      refine wpG_force 12 _ rfl (by kernel_rfl) rfl fun wa hwa K hK => ?_
      go_simp
      refine (cloneB_any A n c pay wa (HX.out.stepB hwa.undrew) hn).mono ?_
      rintro _ wb ⟨v, rfl, ho, hbb⟩
      obtain ⟨A5, c5, hv5, hoa, hc5, hm5⟩ := OwnS.ownA ho
      have HB := Lib.hid (hwa.undrew.trans hbb)
      have HO := Lib.hid (show ∃ hv : Hdr, v = hv.val ∧ SlQ U8 (fun k => w.heap.size ≤ k) wb hv pay from by
        refine ⟨⟨A5, pay.length, c5⟩, hv5, ?_⟩
        have hsl := hoa.sl
        refine ⟨hsl, hc5, hm5, fun hn0 ad e => ?_⟩
        obtain ⟨g5, e5, h5, _, _⟩ := OwnA.place hoa hn0
        have e' : A5 = some ad := e
        rw [e5] at e'
        injection e' with e'
        rw [← e']
        exact Nat.le_trans hwa.undrew.size h5)
      refine hK _ _ (fun _ => hbb) ?_
      clear hK K ho hbb hoa hc5 hm5
      obtain ⟨hv, rfl, hsq⟩ := HO.out
      have HQ := Lib.hid hsq; clear hsq HO hv5
      have hsz := HB.out.size
      refine wpG_force 13 _ rfl (by kernel_rfl) rfl fun wc hwc K hK => ?_
      go_simp
      refine hK _ _ (fun _ => GB.rf _) ?_
      clear hK K
      refine wpG_force 14 _ rfl (by kernel_rfl) rfl fun wd hwd K hK => ?_
      go_simp
      refine hK _ _ (fun _ => GB.rf _) ?_
      clear hK K
      refine wpG_force 15 _ rfl (by kernel_rfl) rfl fun we hwe K hK => ?_
      have HBE := Lib.hid (HB.out.trans (Bel.trans (Bel.trans hwc hwd) hwe))
      have HVE := Lib.hid (HQ.out.bel (Bel.trans (Bel.trans hwc hwd) hwe))
      have hsz2 := (Bel.trans (Bel.trans hwc hwd) hwe).size
      have e5 : we.cell? ⟨pb, d * 37 + 35, none⟩ = some (.int .i64 m.status) := GB.cell HBE.out f5
      have z5 : we.frozen? ⟨pb, d * 37 + 35, none⟩ = false := frozen_of_free (a := ⟨pb, d * 37 + 35, none⟩) ((blkFree_keep (HBE.out.block _ hpbl)).trans hfr)
      have e6 : (we.setCell ⟨pb, d * 37 + 35, none⟩ (.int .i64 st)).cell? ⟨pb, d * 37 + 36, none⟩ = some (.slice x.payload.a x.payload.len x.payload.cap) := (World.cell?_setCell_other we _ _ _ (fun h => by injection h with _ h _; omega)).trans (GB.cell HBE.out f6)
      have z6 : blkFree (we.setCell ⟨pb, d * 37 + 35, none⟩ (.int .i64 st)) pb = true := by rw [blkFree_setCell]; exact (blkFree_keep (HBE.out.block _ hpbl)).trans hfr
      go_simp
      have HP1 := Lib.hid (LedgerIs.poke1 (U' := U) (j := 35) (v := .int .i64 st) (m' := ⟨m.e, st, m.pay⟩) (H.out.bel HBE.out) HM.out (by omega) (HPB.out.bel HBE.out) (fun _ h => h) (H.out.bel HBE.out).ltU rfl (fun x hx hS => ⟨⟨x.e, st, x.payload⟩, place_status x st, hx.1, rfl, hx.2.2.chg (Chg.setCell (S := fun k => k = pb) (p := ⟨pb, d * 37 + 35, none⟩) rfl _) (fun k hk e => hk.2 (e ▸ hS))⟩))
      clear e5 z5 hwc hwd hwe
      have hV2 := HVE.out.chg (Chg.setCell (S := fun k => k = pb) (p := ⟨pb, d * 37 + 35, none⟩) rfl (.int .i64 st)) (fun k hk e => by omega)
      have HV2 := Lib.hid hV2
      have hbz : (we.setCell ⟨pb, d * 37 + 35, none⟩ (.int .i64 st)).heap.size = we.heap.size := by simp
      generalize we.setCell ⟨pb, d * 37 + 35, none⟩ (.int .i64 st) = wf at e6 z6 HP1 HV2 hbz ⊢
      refine hK _ _ (fun h => absurd (by simp) h) ?_
      clear hK K hV2
      have hpbf : pb < wf.heap.size := by omega
      refine wpG_force 16 _ rfl (by kernel_rfl) rfl fun wc hwc K hK => ?_
      go_simp
      refine hK _ _ (fun _ => GB.rf _) ?_
      clear hK K
      refine wpG_force 17 _ rfl (by kernel_rfl) rfl fun wd hwd K hK => ?_
      go_simp
      refine hK _ _ (fun _ => GB.rf _) ?_
      clear hK K
      refine wpG_force 18 _ rfl (by kernel_rfl) rfl fun wk hwk K hK => ?_
      have HBK := Lib.hid (Bel.trans (Bel.trans hwc hwd) hwk)
      have e7 : wk.cell? ⟨pb, d * 37 + 36, none⟩ = some (.slice x.payload.a x.payload.len x.payload.cap) := GB.cell HBK.out e6
      have z7 : wk.frozen? ⟨pb, d * 37 + 36, none⟩ = false := frozen_of_free (a := ⟨pb, d * 37 + 36, none⟩) ((blkFree_keep (HBK.out.block _ hpbf)).trans z6)
      go_simp
      clear hwc hwd hwk e6 z6 e7 z7
      obtain ⟨hL1, hC1, hH1⟩ := HP1.out
      have hm1 : (M.l.set d ⟨m.e, st, m.pay⟩)[d]? = some ⟨m.e, st, m.pay⟩ := List.getElem?_set_self (List.getElem?_eq_some_iff.1 HM.out).1
      have hq2 := HV2.out.bel HBK.out
      have hp2 := LedgerIs.poke1 (U' := fun k => U k ∨ (0 < hv.len ∧ ∃ ad, hv.a = some ad ∧ k = ad.block)) (j := 36) (v := hv.val) (m' := ⟨m.e, st, pay⟩) (hL1.bel HBK.out) hm1 (by omega) (hH1.bel HBK.out) (fun _ h => .inl h)
        (fun k hk => by
          rcases hk with hk | ⟨h0, ad, e, rfl⟩
          · exact (hL1.bel HBK.out).ltU k hk
          · exact hq2.1.block_lt h0 e) rfl
        (fun x hx hS => ⟨⟨x.e, x.status, hv⟩, place_payload x hv, hx.1, hx.2.1, by
          obtain ⟨h1, h2, h3, h4⟩ := hq2.chg (Chg.setCell (S := fun k => k = pb) (p := ⟨pb, d * 37 + 36, none⟩) rfl hv.val) (fun k hk e => by omega)
          exact ⟨h1, h2, h3, fun hn ad e => ⟨.inr ⟨hn, ad, e, rfl⟩, fun hs => by
            have k1 := h4 hn ad e
            have k2 := H.out.lt ad.block hs
            omega⟩⟩⟩)
      simp only [List.set_set] at hp2
      obtain ⟨hL2, hC2, _⟩ := hp2
      have HL2 := Lib.hid hL2
      have HC := Lib.hid ((((Chg.of_bel HBE.out S).tr hC1).tr (Chg.of_bel HBK.out S)).tr hC2)
      have HU2 := Lib.hid (show ∀ k, (U k ∨ (0 < hv.len ∧ ∃ ad, hv.a = some ad ∧ k = ad.block)) → U k ∨ w.heap.size ≤ k from fun k hk => by
        rcases hk with hk | ⟨h0, ad, e, rfl⟩
        · exact .inl hk
        · exact .inr (HQ.out.2.2.2 h0 ad e))
      clear hL1 hC1 hH1 hL2 hC2 hq2 hm1
      change K _ (wk.setCell ⟨pb, d * 37 + 36, none⟩ hv.val)
      generalize wk.setCell ⟨pb, d * 37 + 36, none⟩ hv.val = wl at HL2 HC ⊢
      refine hK _ _ (fun h => absurd (by simp) h) ?_
      clear hK K
      refine wpG_end (by kernel_rfl) (fun wn hwn => ?_) _
      have HBN := Lib.hid (show Bel wl wn from hwn); clear hwn
      go_wp2_with fail
      go_end0
      exact ⟨rfl, _, by rw [HF.out]; exact HL2.out.bel HBN.out, HU2.out, HC.out.tr (Chg.of_bel HBN.out S)⟩
  · have hin1 : inB M i = false := by simpa using hin
    have HIN := Lib.hid hin1
    clear h hin hin1
    go_enter Try.func81, Try.ntmps81
    go_wp2_with fail
    refine (in_is false g S U M _ _ HIN.out H.out).mono ?_
    rintro _ w1 ⟨rfl, rfl⟩
    go_wp2_with fail
    go_end0
    refine ⟨rfl, U, ?_, fun k hk => .inl hk, Chg.refl _ _⟩
    unfold endM
    rw [if_neg (by rw [HIN.out]; simp)]
    exact H.out
end Go.Proofs.Yteockodnfempfaa
/- The names that are logged, as a map. Conditions: those named in each theorem. -/
namespace Go.Proofs.Yteockodnfempfaa
open Go Go.RowKit Go.Gv

theorem namesFrom_keys : ∀ (l : List MPlace) (i : Nat), (namesFrom i l).map (·.1) = l.map (·.e.name)
  | [], _ => rfl
  | x :: l, i => by simp only [namesFrom, List.map_cons]; rw [namesFrom_keys l (i + 1)]
def namesL (M : MLedger) : List GName := M.l.map (·.e.name)
/-- A map that says true of the names in S, and of no others. -/
def SetIs (nm : List (GName × Bool)) (S : List GName) : Prop := ∀ k, mget nm k = if k ∈ S then some true else none
theorem SetIs.nil : SetIs [] [] := fun k => by simp [mget_nil]
theorem SetIs.add {nm : List (GName × Bool)} {S : List GName} (h : SetIs nm S) (k : GName) : SetIs (mset nm k true) (S ++ [k]) := fun k' => by
  by_cases e : k' = k
  · subst e; rw [mget_mset_same]; simp
  · rw [mget_mset_other _ _ e, h k']; simp [e]
theorem SetIs.perm {nm : List (GName × Bool)} {S S' : List GName} (h : SetIs nm S) (hS : ∀ k, k ∈ S ↔ k ∈ S') : SetIs nm S' := fun k => by rw [h k]; simp only [hS k]
def LoggedR (M : MLedger) (w : World) (e : Ending) (w' : World) : Prop := ∃ r nm, e = .returned (.map (some r)) ∧ mapAt GName Bool w' r = some nm ∧ SetIs nm (namesL M) ∧ w.heap.size ≤ r ∧ Bel w w'
set_option maxRecDepth 100000 in
set_option maxHeartbeats 1000000 in
theorem logged_any (g : Nat) (S U : Nat → Prop) (M : MLedger) (w : World) (h : LedgerIs w g S U M) :
    Calls Try.prog 83 #[.pointer (some ⟨g, 0, none⟩)] w (LoggedR M w) := by
  have hmm := @run_makeMap Try.prog
  obtain ⟨hd, r, ps, nm, rfl, hSU, hg, hf, ho, hne, hr, hm, hp⟩ := h
  have hrl := mapAt_lt hm
  have f3 : ∀ o, (w.alloc o).cell? ⟨g, 3, none⟩ = some (.map (some r)) := fun o => (ledger_cells (get?_alloc o hg)).2.2.2.1
  have HK := Lib.hid (show ∀ k, k ∈ nm.map (·.1) ↔ k ∈ namesL M from fun k => by
    unfold namesL
    rw [← namesFrom_keys M.l 0]
    exact (hp.map _).mem_iff)
  obtain ⟨o, hrange, hR0⟩ := ranges_start (P := Try.prog) um161 (mapAt_alloc (.map #[] 0) hm)
  simp only [World.size_alloc] at hrange hR0
  have HR0 := Lib.hid hR0
  clear hR0 hSU hg hf ho hne hr hm hp
  go_enter Try.func83, Try.ntmps83
  go_wp2_with fail
  clear hrange f3
  go_loopw [] (fun wr => ∃ V L nk, (V ++ L).Perm nm ∧ Ranges wr r (w.heap.size + 1) nm L ∧ mapAt GName Bool wr w.heap.size = some nk ∧ SetIs nk (V.map (·.1)) ∧ Bel w wr ∧ w.heap.size + 1 < wr.heap.size) (fun wr => wr.rangeLeft r (w.heap.size + 1))
  case atStart => exact ⟨[], nm, [], by simp, HR0.out, mapAt_alloc _ (mapAt_new _ _ w), SetIs.nil, ((Bel.refl w).alloc _).alloc _, by simp⟩
  case round =>
    obtain ⟨V, L, nk, hperm, hR, hmk, hset, hb, hsz⟩ := hrel
    have HP := Lib.hid hperm; have HRG := Lib.hid hR; have HM := Lib.hid hmk; have HS := Lib.hid hset; have HBL := Lib.hid hb; clear hperm hR hmk hset hb
    rcases HRG.out.next Try.prog with ⟨rfl, hnext⟩ | ⟨l1, q, l2, w1, rfl, hnext, hR1, hg1, hs1, hen⟩
    · go_wp2_with fail
      go_ret
      refine ⟨w.heap.size, nk, rfl, HM.out, HS.out.perm fun k => ?_, Nat.le_refl _, HBL.out⟩
      rw [← HK.out k]
      have := HP.out
      rw [List.append_nil] at this
      exact (this.map _).mem_iff
    · obtain ⟨k, v⟩ := q
      replace hnext : ∀ ty : TypeId, (Instr.next (.pointer (some ⟨w.heap.size + 1, 0, none⟩)) false ty).run Try.prog wr = .ok (.tuple #[.bool true, k.val, .int .i64 v]) w1 := hnext
      replace hen : (Instr.entry (.pointer (some ⟨w.heap.size + 1, 0, none⟩))).run Try.prog w1 = .ok (.tuple #[k.val, .int .i64 v]) w1 := hen
      have HR1 := Lib.hid hR1; have HG1 := Lib.hid hg1
      have hma : mapAt GName Bool (w1.alloc (.cells k.enc.toArray 25)) w.heap.size = some nk := mapAt_alloc _ (mapAt_grown hg1 (fun e => by injection e with e; omega) HM.out)
      have HB1 := Lib.hid ((HBL.out.grown hg1 (fun j hj => by injection hj with hj; omega)).alloc (.cells k.enc.toArray 25))
      have HP2 := Lib.hid (show ((V ++ [(k, v)]) ++ (l1 ++ l2)).Perm nm from by
        refine List.Perm.trans ?_ HP.out
        rw [List.append_assoc]
        show (V ++ ((k, v) :: (l1 ++ l2))).Perm _
        exact (List.perm_middle.symm).append_left V)
      have hmeas : (l1 ++ l2).length < wr.rangeLeft r (w.heap.size + 1) := by rw [HRG.out.leftN]; simp
      clear hR1 hg1
      have hml := mapAt_mput kl25 um110 hma k true
      have hgr := mput_grown kl25 um110 hma k true
      have hrg := (HR1.out.below ((Below.refl _ _).alloc (Nat.le_refl _) (.cells k.enc.toArray 25))).kept hgr (fun e => by injection e with e; omega) (fun e => by injection e with e; omega)
      have hbb := HB1.out.grown hgr (fun j hj => by injection hj with hj; omega)
      have hzz := hgr.size
      simp only [World.size_alloc] at hzz
      have HML := Lib.hid hml; have HRR := Lib.hid hrg; have HBB := Lib.hid hbb
      clear hml hgr hrg hbb
      go_wp2_with fail
      exact ⟨⟨V ++ [(k, v)], l1 ++ l2, _, HP2.out, HRR.out, HML.out, by rw [List.map_append]; exact HS.out.add k, HBB.out, by omega⟩, by rw [HRR.out.leftN]; exact hmeas⟩
end Go.Proofs.Yteockodnfempfaa
/- A list's numbers through slices.Values and slices.AppendSeq. Conditions: those named in each theorem. -/
namespace Go.Proofs.Yteockodnfempfaa
open Go Go.Proofs Go.RowKit Go.Shelf

attribute [local go_sem] Oper.semAt_some

/-- The first k of f. -/
def upto {α : Type} (f : Nat → α) (k : Nat) : List α := (List.range k).map f
theorem upto_succ {α : Type} (f : Nat → α) (k : Nat) : upto f (k + 1) = upto f k ++ [f k] := by simp [upto, List.range_succ]
theorem upto_length {α : Type} (f : Nat → α) (k : Nat) : (upto f k).length = k := by simp [upto]
theorem upto_all (zs : List Int) : upto (fun j => zs[j]?.getD 0) zs.length = zs := by
  apply List.ext_getElem
  · simp [upto]
  · intro i h1 h2
    simp [upto, h2]
theorem upto_take (zs : List Int) {k : Nat} (hk : k ≤ zs.length) : upto (fun j => zs[j]?.getD 0) k = zs.take k := by
  apply List.ext_getElem
  · simp [upto, hk]
  · intro i h1 h2
    have : i < zs.length := by simp [upto] at h1; omega
    simp [upto, this]
set_option maxRecDepth 100000 in
set_option maxHeartbeats 2000000 in
theorem values1_in (F : Fence) (n : Nat) (h7 : F.fn 180) (hro : F.round = none) (hn : 1 ≤ n) (l Bs n₀ b off len cap : Nat) (zs : List Int) (hreach : len * 8 ≤ 140737488351232) (hb : b < n₀) (J Jx : List Int → World → Prop)
    (hY : ∀ pre x W, J pre W → pre.length < len → YieldAt F (n - 1) Try.prog l #[.int .u64 x] W fun e W' =>
      (e = .returned (.bool true) ∧ J (pre ++ [x]) W' ∧ Below n₀ W W') ∨ (e = .returned (.bool false) ∧ Jx (pre ++ [x]) W'))
    (W : World) (hBs : W.cell? ⟨Bs, 0, none⟩ = some (.slice (some ⟨b, off, none⟩) len cap)) (hc : ∀ j, j < len → W.cell? ⟨b, off + j, none⟩ = some (.int .u64 (zs[j]?.getD 0))) (h0 : J [] W) :
    CallsIn F n Try.prog 180 #[.func (.yield l) #[] #[], .pointer (some ⟨Bs, 0, none⟩)] W fun e W' => (∃ v, e = .returned v) ∧
      ((∃ ys, ys = upto (fun j => zs[j]?.getD 0) len ∧ J ys W') ∨ (∃ pre, (∃ k, k ≤ len ∧ pre = upto (fun j => zs[j]?.getD 0) k) ∧ Jx pre W')) := by
  refine callsIn_of_wp Try.func180 rfl h7 ?_ hro
  simp only [Try.ntmps180, List.size_toArray, List.length_cons, List.length_nil, Nat.reduceAdd, Nat.reduceSub, Array.replicate_succ, Array.replicate_zero, List.push_toArray, List.append_toArray, List.nil_append, List.cons_append]
  gi_wp2
  gi_loopw [7] (fun i wr => ∃ k : Nat, k ≤ len ∧ i = .int .i64 k ∧ J (upto (fun j => zs[j]?.getD 0) k) wr ∧ Below n₀ W wr)
    (fun i _ => len - (intOf i).toNat)
  case atStart => exact ⟨0, Nat.zero_le _, rfl, h0, Below.refl _ _⟩
  case round =>
    obtain ⟨k, hk, rfl, hJs, hnx⟩ := hrel
    have hcx : k < len → wr.cell? ⟨b, off + k, none⟩ = some (.int .u64 (zs[k]?.getD 0)) := fun h => (hnx.cell (p := ⟨b, off + k, none⟩) hb).trans (hc k h)
    by_cases hlt : k < len
    · obtain ⟨fn, tmps, assign, body, hy, hR⟩ := hY _ (zs[k]?.getD 0) wr hJs (by rw [upto_length]; exact hlt)
      have hcx' := hcx hlt
      gi_wp2
      refine hR.mono ?_
      rintro e W3 (⟨rfl, hJ3, hk3⟩ | ⟨rfl, hJx3⟩)
      · gi_wp2
        go_roundw
        case rel => exact ⟨k + 1, by omega, by simp, by rw [upto_succ]; exact hJ3, hnx.trans hk3⟩
        case measure => simp [intOf]; omega
      · gi_wp2
        refine bodyPost_ret (results_none rfl _ _ _) rfl ?_
        exact ⟨⟨_, rfl⟩, .inr ⟨_, ⟨k + 1, by omega, (upto_succ _ _).symm⟩, hJx3⟩⟩
    · obtain rfl : k = len := by omega
      gi_wp2
      go_end0
      exact ⟨⟨_, rfl⟩, .inl ⟨_, rfl, hJs⟩⟩
/-- A slice value that holds numbers, in a block below n₀. -/
def NumsAt (n₀ : Nat) (W : World) (sv : Value) (zs : List Int) : Prop :=
  ∃ b off cap, sv = .slice (some ⟨b, off, none⟩) zs.length cap ∧ b < n₀ ∧ ∀ j, j < zs.length → W.cell? ⟨b, off + j, none⟩ = some (.int .u64 (zs[j]?.getD 0))
theorem NumsAt.below {n₀ : Nat} {A B : World} (h : Below n₀ A B) {sv : Value} {zs : List Int} : NumsAt n₀ A sv zs → NumsAt n₀ B sv zs
  | ⟨b, off, cap, e, hb, hc⟩ => ⟨b, off, cap, e, hb, fun j hj => (h.cell (p := ⟨b, off + j, none⟩) hb).trans (hc j hj)⟩
theorem values_stops (F : Fence) (n : Nat) (h7 : F.fn 180) (hro : F.round = none) (hn : 1 ≤ n) (Bs n₀ : Nat) (sv : Value) (zs : List Int) (hreach : zs.length * 8 ≤ 140737488351232) (w : World) (hBs : Bs < w.heap.size) (hn₀ : n₀ ≤ w.heap.size)
    (hc : w.cell? ⟨Bs, 0, none⟩ = some sv) (hI : NumsAt n₀ w sv zs) :
    SeqStopsK F n Try.prog 180 #[.pointer (some ⟨Bs, 0, none⟩)] (fun x : Int => #[Value.int .u64 x]) (Below n₀) (fun ys => ys = zs) (fun pre => pre <+: zs) zs.length w := fun l J Jx W hW _ _ hY h0 => by
  have hc' := (hW.cell (p := ⟨Bs, 0, none⟩) hBs).trans hc
  obtain ⟨b, off, cap, rfl, hb, hcs⟩ := hI.below (hW.mono hn₀)
  refine (values1_in F n h7 hro hn l Bs n₀ b off zs.length cap zs hreach hb J Jx hY W hc' hcs h0).mono ?_
  rintro e W' ⟨he, ⟨ys, rfl, hj⟩ | ⟨pre, ⟨k, hk, rfl⟩, hj⟩⟩
  · exact ⟨he, .inl ⟨_, upto_all zs, hj⟩⟩
  · exact ⟨he, .inr ⟨_, by rw [upto_take zs hk]; exact List.take_prefix _ _, hj⟩⟩
theorem info_u64 : (Try.prog.info? 28).map (fun i => (i.zero, i.size, i.bytes)) = some (some (.int .u64 0), 1, 8) := by kernel_rfl
set_option maxRecDepth 100000 in
set_option maxHeartbeats 4000000 in
theorem appendSeq_in (F : Fence) (n : Nat) (h3 : F.fn 189) (h5 : F.fn 180) (hro : F.round = none) (hn : 3 ≤ n) (Bs : Nat) (sv : Value) (zs : List Int) (hlen : zs.length ≤ 1000000) (w : World) (hBs : Bs < w.heap.size) (hcs : w.cell? ⟨Bs, 0, none⟩ = some sv) (hL : NumsAt w.heap.size w sv zs) :
    CallsIn F n Try.prog 189 #[.slice none 0 0, .func (.func 180) #[] #[.pointer (some ⟨Bs, 0, none⟩)]] w fun e W' => ∃ v, e = .returned v ∧ W'.ownsRow w.heap.size 28 1 v zs.length (zs.map (Value.int .u64)) ∧ Below w.heap.size w W' := by
  have h1 : 1 ≤ n := by omega
  obtain ⟨i0, hi, hz0, hz1, hz2⟩ := info_parts info_u64
  refine callsIn_of_wp_marks Try.func189 rfl h3 ?_ hro
  simp only [Try.ntmps189, List.size_toArray, List.length_cons, List.length_nil, Nat.reduceAdd, Nat.reduceSub, Array.replicate_succ, Array.replicate_zero, List.push_toArray, List.append_toArray, List.nil_append, List.cons_append]
  gi_wp2
  have bO := Boxed.new w 36 (.slice none 0 0)
  have hB0 : Below w.heap.size w (w.alloc (.cells #[.slice none 0 0] 36)) := (Below.refl _ w).alloc (Nat.le_refl _) _
  refine wpIn_rangeFunc_ownG hro h1 (gf := 180) (lb := #[.pointer (some ⟨Bs, 0, none⟩)]) rfl h5 (enters_of Try.func180 (by kernel_rfl) rfl)
    (values_stops F (n - 1) h5 hro (by omega) Bs w.heap.size sv zs (by omega) w hBs (Nat.le_refl _) hcs hL) belowK_t (belowK_b (by simp)) hB0 (fun _ => rfl)
    (fun pre W => (∃ v, Boxed W w.heap.size 36 v ∧ W.ownsRow w.heap.size 28 1 v pre.length (pre.map (Value.int .u64)) ∧ (v = .slice none 0 0 ↔ pre = [])) ∧ Below w.heap.size w W)
    (fun _ _ _ => False)
    (OwnFrom.and (Own.from (holdsRow_own w.heap.size w.heap.size 36 28 1 (fun pre => pre.length) (fun pre => pre.map (Value.int .u64)) (fun pre v => v = .slice none 0 0 ↔ pre = [])) _) (ownFrom_below (Nat.le_refl _) (by simp)))
    (fun _ _ _ _ _ hs _ _ => hs)
    ⟨⟨_, bO, World.ownsRow_nil _ _ _ _, by simp⟩, hB0⟩
    (fun x => { tmps := #[.slice none 0 0, .func (.func 180) #[] #[.pointer (some ⟨Bs, 0, none⟩)], .pointer (some ⟨w.heap.size, 0, none⟩), undef, .slice none 0 0, .int .u64 x, .func (.func 180) #[] #[.pointer (some ⟨Bs, 0, none⟩)], .int .u64 x, undef, undef, undef, undef, undef], defers := [] }) ?assign ?body ?done ?stop
  case assign =>
    intro l x W K hK
    gi_wp2
    exact hK
  case body =>
    rintro l pre x W ⟨⟨v, hv, hrow, hnil⟩, hB⟩ hlt
    have hc := hv.cell
    gi_wp2_with (gi_at_builtin; refine wpListIn_append_own _ rfl _ _ 36 rfl w.heap.size 28 i0 (.int .u64 0) 1 8 Try.underlying36 hi hz0 hz1 hz2 rfl (by decide) _ _ _ rfl (hrow.alloc _) ⟨W.heap.size, 0, none⟩ 1 1 [.int .u64 x] rfl rfl (cell_one_new _ _ _) (by simp [Value.oneCell']) (by unfold maxLen; omega) (by omega) (by have := hB.size; simp; omega) ?_; intro v' w1 hown' hgrow _; obtain ⟨g', cap', rfl⟩ := ownsRow_succ hown'; obtain ⟨hv1, hv2, hr2, hk2, hb2⟩ := hv.appended (by decide) hrow hB.size (Nat.le_refl _) hown' hgrow; have hc1 := hv1.cell; have hf1 := hv1.frozen)
    exact ⟨hk2.from _, hb2, ⟨_, hv2, by simpa using hr2, by simp⟩, hB.trans hb2⟩
  case done =>
    rintro D ys W hD rfl ⟨⟨v, hv, hrow, hnil⟩, hB⟩ hK
    have hc := hv.cell
    gi_wp2
    refine ⟨by simp, .inl ⟨_, _, rfl, run_takeDeferred hK, ?_⟩⟩
    exact ⟨_, results_tmp rfl _ _ _, v, rfl, ownsRow_putObj hrow _ hK rfl, hB.trans (belowK_b (w := w) (Nat.le_refl _) W D _ _ (by simp at hD; omega) hK rfl rfl)⟩
  case stop =>
    rintro D c pre W _ _ h _
    exact h.elim
set_option maxRecDepth 100000 in
set_option maxHeartbeats 1000000 in
/-- slices.Collect over slices.Values. -/
theorem collect_any (Bs : Nat) (sv : Value) (zs : List Int) (hlen : zs.length ≤ 1000000) (w : World) (hBs : Bs < w.heap.size) (hcs : w.cell? ⟨Bs, 0, none⟩ = some sv) (hL : NumsAt w.heap.size w sv zs) :
    Calls Try.prog 178 #[.func (.func 180) #[] #[.pointer (some ⟨Bs, 0, none⟩)]] w fun e W' => ∃ v, e = .returned v ∧ W'.ownsRow w.heap.size 28 1 v zs.length (zs.map (Value.int .u64)) ∧ Below w.heap.size w W' := by
  have H := (callsIn_wide (n := 3)).1 (appendSeq_in Fence.wide 3 trivial trivial rfl (by omega) Bs sv zs hlen w hBs hcs hL)
  go_enter Try.func178, Try.ntmps178
  go_wp2_with fail
  refine H.mono ?_
  rintro _ w1 ⟨v, rfl, hr, hb⟩
  go_wp2_with fail
  go_ret
  exact ⟨v, rfl, hr, hb⟩
end Go.Proofs.Yteockodnfempfaa
/- A certificate of one stamp: its time. Conditions: those named in each theorem. -/
namespace Go.Proofs.Yteockodnfempfaa
open Go Go.RowKit Go.Gv

set_option maxRecDepth 100000 in
theorem bitsLen1 (w : World) : Calls Try.prog 111 #[.int .u64 1] w fun e w' => (∃ k, e = .returned (.int .i64 k)) ∧ w' = w := by
  go_enter Try.func111, Try.ntmps111
  go_wp2
  go_ret
  exact ⟨⟨_, rfl⟩, rfl⟩
set_option maxRecDepth 100000 in
theorem ins1_any (ad : Addr) (c : Nat) (w : World) : Calls Try.prog 193 #[.slice (some ad) 1 c, .int .i64 0, .int .i64 1] w fun e w' => e = .returned (.tuple #[]) ∧ w' = w := by
  go_enter Try.func193, Try.ntmps193
  go_wp2
  go_loopw [6] (fun i wr => i = .int .i64 1 ∧ wr = w) (fun _ _ => 0)
  case atStart => exact ⟨rfl, rfl⟩
  case round =>
    obtain ⟨rfl, rfl⟩ := hrel
    go_wp2
    go_end0
    exact ⟨rfl, rfl⟩
set_option maxRecDepth 100000 in
theorem pdq1_any (ad : Addr) (c : Nat) (k : Int) (w : World) : Calls Try.prog 190 #[.slice (some ad) 1 c, .int .i64 0, .int .i64 1, .int .i64 k] w fun e w' => e = .returned (.tuple #[]) ∧ w' = w := by
  go_enter Try.func190, Try.ntmps190
  go_wp2_with fail
  go_loopw [1, 2, 3, 8, 9] (fun a b l x y wr => a = .int .i64 0 ∧ b = .int .i64 1 ∧ l = .int .i64 k ∧ x = .bool true ∧ y = .bool true ∧ wr = w) (fun _ _ _ _ _ _ => 0)
  case atStart => exact ⟨rfl, rfl, rfl, rfl, rfl, rfl⟩
  case round =>
    obtain ⟨rfl, rfl, rfl, rfl, rfl, rfl⟩ := hrel
    go_wp2_with fail
    refine (ins1_any ad c _).mono ?_
    rintro _ w1 ⟨rfl, rfl⟩
    go_wp2_with fail
    refine bodyPost_ret (results_none rfl _ _ _) rfl ?_
    exact ⟨rfl, rfl⟩
set_option maxRecDepth 100000 in
theorem sort1_any (ad : Addr) (c : Nat) (w : World) : Calls Try.prog 179 #[.slice (some ad) 1 c] w fun e w' => e = .returned (.tuple #[]) ∧ w' = w := by
  go_enter Try.func179, Try.ntmps179
  go_wp2_with fail
  refine (bitsLen1 _).mono ?_
  rintro _ w1 ⟨⟨k, rfl⟩, rfl⟩
  go_wp2_with fail
  refine (pdq1_any ad c k _).mono ?_
  rintro _ w2 ⟨rfl, rfl⟩
  go_wp2_with fail
  go_end0
  exact ⟨rfl, rfl⟩
set_option maxRecDepth 100000 in
theorem sorted1_any (Bs : Nat) (sv : Value) (t : Int) (w : World) (hBs : Bs < w.heap.size) (hcs : w.cell? ⟨Bs, 0, none⟩ = some sv) (hL : NumsAt w.heap.size w sv [t]) :
    Calls Try.prog 156 #[.func (.func 180) #[] #[.pointer (some ⟨Bs, 0, none⟩)]] w fun e W' => ∃ g c, e = .returned (.slice (some ⟨g, 0, none⟩) 1 c) ∧ W'.cell? ⟨g, 0, none⟩ = some (.int .u64 t) ∧ Below w.heap.size w W' := by
  have H := Lib.hid (collect_any Bs sv [t] (by simp) w hBs hcs hL)
  go_enter Try.func156, Try.ntmps156
  go_wp2_with fail
  refine H.out.mono ?_
  rintro _ w1 ⟨v, rfl, hr, hb⟩
  have hB := Lib.hid hb; clear hb
  rcases hr.2 with ⟨_, h0⟩ | ⟨g, cap, cur, rfl, _, hg, _, _, hsz, htk⟩
  · simp at h0
  · have hcell : w1.cell? ⟨g, 0, none⟩ = some (.int .u64 t) := by
      rw [cell_of_row w1 g 0 cur _ _ hg]
      have h2 : (cur.toList.take 1)[0]? = some (.int .u64 t) := by
        have : cur.toList.take 1 = [Value.int .u64 t] := by simpa using htk
        rw [this]; rfl
      rw [List.getElem?_take] at h2
      simpa using h2
    have HC := Lib.hid hcell
    clear hr hg hsz htk hcell
    simp only [List.length_singleton]
    go_wp2_with fail
    refine (sort1_any ⟨g, 0, none⟩ cap _).mono ?_
    rintro _ w2 ⟨rfl, rfl⟩
    go_wp2_with fail
    go_ret
    exact ⟨g, cap, rfl, HC.out, hB.out⟩
set_option maxRecDepth 100000 in
theorem valuesF_any (a : Option Addr) (n c : Nat) (w : World) :
    Calls Try.prog 157 #[.slice a n c] w fun e w' => e = .returned (.func (.func 180) #[] #[.pointer (some ⟨w.heap.size, 0, none⟩)]) ∧ w' = w.alloc (.cells #[.slice a n c] 36) := by
  go_enter Try.func157, Try.ntmps157
  go_wp2_with fail
  go_ret
  exact ⟨rfl, rfl⟩
set_option maxRecDepth 100000 in
theorem median1_any (b o c : Nat) (t : Int) (w : World) (hc : w.cell? ⟨b, o, none⟩ = some (.int .u64 t)) :
    Calls Try.prog 143 #[.slice (some ⟨b, o, none⟩) 1 c] w fun e W' => e = .returned (.tuple #[.int .u64 t, .bool true]) ∧ Bel w W' := by
  have hlt : b < w.heap.size := World.block_lt_of_cell? w _ hc
  have HS := Lib.hid (sorted1_any w.heap.size (.slice (some ⟨b, o, none⟩) 1 c) t (w.alloc (.cells #[.slice (some ⟨b, o, none⟩) 1 c] 36)) (by simp) (by simp) ⟨b, o, c, rfl, by simp; omega, fun j hj => by
    obtain rfl : j = 0 := by simpa using hj
    exact GB.cell ((Bel.refl w).alloc _) hc⟩)
  clear hc
  go_enter Try.func143, Try.ntmps143
  go_wp2_with fail
  refine (valuesF_any _ _ _ _).mono ?_
  rintro _ w1 ⟨rfl, rfl⟩
  go_wp2_with fail
  refine HS.out.mono ?_
  rintro _ w2 ⟨g, c2, rfl, hcell, hb⟩
  have HB := Lib.hid (((Bel.refl w).alloc (.cells #[.slice (some ⟨b, o, none⟩) 1 c] 36)).trans hb)
  clear hb HS
  go_wp2_with fail
  go_ret2
  exact ⟨rfl, HB.out⟩
def timesOf (l : List GStamp) : List U64 := l.map fun s => ⟨s.time⟩
set_option maxRecDepth 100000 in
set_option maxHeartbeats 1000000 in
/-- The time of a certificate of one stamp. -/
theorem time1_any (x : GCert) (s : GStamp) (w : World) (hx : Sl GStamp w w.heap.size x.stamps.a x.stamps.len [s]) :
    Calls Try.prog 116 #[x.val] w fun e W' => e = .returned (.int .u64 s.time) ∧ Bel w W' := by
  have H := Lib.hid hx
  have hn : x.stamps.len = 1 := hx.1.symm
  have hst : ∀ o, (w.alloc o).heap.size = w.heap.size + 1 := fun o => by simp
  have hcell := GCert.at_stamps (get?_new (w := w) 89 x)
  have f1 : (w.alloc (.cells x.enc.toArray 89)).cell? ⟨w.heap.size, 37, none⟩ = some (.slice x.stamps.a 1 x.stamps.cap) := by
    have e : x.stamps.val = .slice x.stamps.a 1 x.stamps.cap := by unfold Hdr.val; rw [hn]
    rw [e] at hcell
    exact cell_off (by omega) hcell
  clear hcell hx
  go_enter Try.func116, Try.ntmps116
  go_wp2_with fail
  go_loopw [3, 11] (fun v i wr => ∃ k : Nat, k ≤ 1 ∧ i = .int .i64 k ∧ OwnS wr w.heap.size 28 v ((timesOf [s]).take k) ∧ Bel w wr) (fun _ i _ => 1 - (intOf i).toNat)
  case atStart => exact ⟨0, by omega, rfl, OwnS.nil _ _ _, (Bel.refl w).alloc _⟩
  case round =>
    obtain ⟨k, hk, rfl, hown, hb⟩ := hrel
    have HO := Lib.hid hown; have HB := Lib.hid hb; clear hown hb
    by_cases hlt : k < 1
    · have hxs := H.out.stepB HB.out
      rw [hn] at hxs
      obtain ⟨ad, s', hA, hab, hsk, hgs⟩ := hxs.at_ (k := k) hlt
      have hss : s' = s := by
        have := List.mem_of_getElem? hsk
        simpa using this
      subst hss
      rw [hA] at f1 ⊢
      change get? GStamp wr (ad.add (k * 38)) = some s' at hgs
      have hlt1 : (k : Int) < 1 := by omega
      have htl : ((timesOf [s']).take k).length = k := by simp [timesOf]; omega
      obtain ⟨v7, w7, hrun7, ho7, hg7, _⟩ := gAppend_S (P := Try.prog) ei36 (t := 36) ((HO.out.alloc (.cells s'.enc.toArray 86)).alloc (.cells #[.int .u64 s'.time] 28)) (c := 1) (m := 1) (A := some ⟨wr.heap.size + 1, 0, none⟩) (Sl.new_ (B := wr.heap.size + 2) (xs := [(⟨s'.time⟩ : U64)]) rfl rfl (by simp) (by omega)) (by rw [htl]; unfold maxLen; omega) (by rw [htl]; omega) (by have := HB.out.size; simp only [World.size_alloc]; omega) 36
      have hb7 := ((HB.out.alloc (.cells s'.enc.toArray 86)).alloc (.cells #[.int .u64 s'.time] 28)).appS hg7 ((HO.out.alloc (.cells s'.enc.toArray 86)).alloc (.cells #[.int .u64 s'.time] 28)) (Nat.le_refl _)
      have eL : (timesOf [s']).take k ++ [(⟨s'.time⟩ : U64)] = (timesOf [s']).take (k + 1) := by
        obtain rfl : k = 0 := by omega
        rfl
      rw [eL] at ho7
      have HO7 := Lib.hid ho7; have HB7 := Lib.hid hb7
      clear ho7 hb7 hg7 eL htl hxs hsk hA
      go_wp2_with fail
      exact ⟨⟨k + 1, by omega, by go_num, HO7.out, HB7.out⟩, by simp [intOf]; omega⟩
    · have hk1 : k = 1 := by omega
      subst hk1
      obtain ⟨A1, c1, hv1, hoa1, _, _⟩ := OwnS.ownA HO.out
      have hsl1 := hoa1.sl
      obtain ⟨g1, rfl, _, _, _⟩ := OwnA.place hoa1 (by simp [timesOf])
      obtain ⟨ad, y, e, _, hy, hgy⟩ := hsl1.at_ (k := 0) (by simp [timesOf])
      injection e with e; subst e
      have hy2 : y = ⟨s.time⟩ := by simpa [timesOf] using hy.symm
      subst hy2
      have hc1 : wr.cell? ⟨g1, 0, none⟩ = some (.int .u64 s.time) := by
        have := get1 (x := (⟨s.time⟩ : U64)) rfl hgy
        rwa [addN] at this
      have hl1 : ((timesOf [s]).take 1).length = 1 := by simp [timesOf]
      rw [hl1] at hv1
      subst hv1
      have HM := Lib.hid (median1_any g1 0 c1 s.time wr hc1)
      clear hsl1 hoa1 hy hgy hc1
      go_wp2_with fail
      refine HM.out.mono ?_
      rintro _ w2 ⟨rfl, hb2⟩
      have HB2 := Lib.hid (HB.out.trans hb2); clear hb2
      go_wp2_with fail
      go_ret
      exact ⟨rfl, HB2.out⟩
end Go.Proofs.Yteockodnfempfaa
/- Hashes compared; the better entry of a name. Conditions: those named in each theorem. -/
namespace Go.Proofs.Yteockodnfempfaa
open Go Go.RowKit Go.Gv

def BytesAt (w : World) (a : Addr) (l : List UInt8) : Prop := ∀ (j : Nat) (x : UInt8), l[j]? = some x → w.cell? (a.add j) = some (.int .u8 x.toNat)
theorem run_loadBytesG {P : Program} (w : World) : ∀ (l : List UInt8) (a : Addr) (acc : ByteArray), BytesAt w a l → (Extern.Bytes.loadBytes a l.length acc).run P w = .ok ⟨acc.data ++ l.toArray⟩ w
  | [], a, acc, _ => by simp [Extern.Bytes.loadBytes]
  | x :: l, a, acc, h => by
    have h0 : w.cell? a = some (.int .u8 x.toNat) := by
      have := h 0 x rfl
      simpa [Addr.add] using this
    have ih := run_loadBytesG (P := P) w l (a.add 1) (acc.push x) (fun j y hy => by
      have := h (j + 1) y (by simpa using hy)
      have e : (a.add 1).add j = a.add (j + 1) := by rw [add_add, Nat.add_comm]
      rw [e]; exact this)
    have hx : ((x.toNat : Int).toNat).toUInt8 = x := by simp
    simp only [List.length_cons, Extern.Bytes.loadBytes, Sem.run_bind, run_load, h0, Result.andThen, hx]
    rw [ih]
    congr 1
    apply ByteArray.ext
    simp [ByteArray.push]
theorem run_loadBytesL {P : Program} (w : World) (l : List UInt8) (a : Addr) (h : BytesAt w a l) : (Extern.Bytes.loadBytes a l.length .empty).run P w = .ok ⟨l.toArray⟩ w := by
  rw [run_loadBytesG w l a .empty h]
  congr 1
  apply ByteArray.ext
  simp [ByteArray.empty, ByteArray.emptyWithCapacity]
  rfl
theorem run_compareSlices {P : Program} {a b : Addr} {l m : List UInt8} {n k c d : Nat} (w : World) (ha : BytesAt w a l) (hb : BytesAt w b m) (hn : l.length = n) (hk : m.length = k) :
    (Extern.BytealgCompare.compare #[.slice (some a) n c, .slice (some b) k d]).run P w = .ok (.int .i64 (Lib.compareBytes l m)) w := by
  subst hn; subst hk
  change Sem.run P (do pure (goInt (Extern.BytealgCompare.cmp (← Extern.Bytes.bytesOf (.slice (some a) l.length c)) (← Extern.Bytes.bytesOf (.slice (some b) m.length d))))) w = _
  have h1 := run_loadBytesL (P := P) w l a ha
  have h2 := run_loadBytesL (P := P) w m b hb
  simp only [Extern.Bytes.bytesOf, Sem.run_bind, Sem.run_pure]
  rw [h1]
  simp only [Result.andThen]
  rw [h2]
  simp only [Lib.cmp_eq]
  simp [goInt]
set_option maxRecDepth 100000 in
theorem bytesCompare_any (a b : Addr) (l m : List UInt8) (n k c d : Nat) (w : World) (ha : BytesAt w a l) (hb : BytesAt w b m) (hn : l.length = n) (hk : m.length = k) :
    Calls Try.prog 158 #[.slice (some a) n c, .slice (some b) k d] w fun e w' => e = .returned (.int .i64 (Lib.compareBytes l m)) ∧ w' = w := by
  have hA := Lib.hid ha; have hB := Lib.hid hb; clear ha hb
  go_enter Try.func158, Try.ntmps158
  go_wp2
  rw [run_callFunc_extern Try.func181 (by kernel_rfl) (by kernel_rfl) (by kernel_rfl) (e := Extern.BytealgCompare.compare) (by kernel_rfl), run_compareSlices _ hA.out hB.out hn hk]
  simp only [Result.andThen]
  rw [Oper.upon_value]
  go_wp2
  go_ret
  exact ⟨rfl, rfl⟩
theorem hashBytes {w : World} {p : Addr} {a : GHash} (h : get? GHash w p = some a) : BytesAt w p a.l := fun j x hj => by
  have h1 := get?_iff.1 h j (encU8 x) (by show (a.l.map encU8)[j]? = _; rw [List.getElem?_map, hj]; rfl)
  exact h1
def hashLt (a b : GHash) : Bool := decide (Lib.compareBytes a.l b.l < 0)
set_option maxRecDepth 100000 in
theorem shaLess_any (a b : GHash) (w : World) :
    Calls Try.prog 144 #[a.val, b.val] w fun e w' => e = .returned (.bool (hashLt a b)) ∧ Bel w w' := by
  go_enter Try.func144, Try.ntmps144
  go_wp2_with fail
  have h1 : ∀ n, BytesAt (((w.alloc (.cells a.enc.toArray 27)).alloc (.cells b.enc.toArray 27)).drewN n) ⟨w.heap.size, 0, none⟩ a.l := fun n => hashBytes ((get?_drewN n).trans (get?_alloc _ (get?_new (w := w) 27 a)))
  have h2 : ∀ n, BytesAt (((w.alloc (.cells a.enc.toArray 27)).alloc (.cells b.enc.toArray 27)).drewN n) ⟨w.heap.size + 1, 0, none⟩ b.l := fun n => by
    have := get?_new (w := w.alloc (.cells a.enc.toArray 27)) 27 b
    rw [World.size_alloc] at this
    exact hashBytes ((get?_drewN n).trans this)
  have HA := Lib.hid h1; have HB := Lib.hid h2; clear h1 h2
  have HB0 := Lib.hid (((Bel.refl w).alloc (.cells a.enc.toArray 27)).alloc (.cells b.enc.toArray 27))
  go_quiet ((go_at_call 158; exact Calls.quiet_of_same (bytesCompare_any _ _ a.l b.l 32 32 _ _ _ (HA.out _) (HB.out _) a.h b.h)))
  go_wp2_with fail
  go_ret
  exact ⟨ret_bool rfl, HB0.out.drewN _⟩
def aheadB (a b : GEntry) : Bool := decide (a.time < b.time) || (decide (a.time = b.time) && hashLt a.hash b.hash)
set_option maxRecDepth 100000 in
theorem ahead_any (a b : GEntry) (w : World) :
    Calls Try.prog 117 #[a.val, b.val] w fun e w' => e = .returned (.bool (aheadB a b)) ∧ Bel w w' := by
  have HB0 := Lib.hid (((Bel.refl w).alloc (.cells a.enc.toArray 30)).alloc (.cells b.enc.toArray 30))
  by_cases h1 : a.time < b.time
  · have HR := Lib.hid (show aheadB a b = true by unfold aheadB; simp [h1])
    go_enter Try.func117, Try.ntmps117
    go_wp2_with fail
    go_ret
    exact ⟨ret_bool HR.out.symm, HB0.out⟩
  · have h1d : decide (a.time < b.time) = false := by simpa using h1
    by_cases h2 : a.time = b.time
    · have HR := Lib.hid (show aheadB a b = hashLt a.hash b.hash by unfold aheadB; rw [h1d]; simp [h2])
      have h2d : (a.time == b.time) = true := by simpa using h2
      clear h1 h2
      go_enter Try.func117, Try.ntmps117
      go_wp2_with fail
      refine (shaLess_any _ _ _).mono ?_
      rintro _ w1 ⟨rfl, hb⟩
      have HB1 := Lib.hid (HB0.out.trans hb); clear hb
      go_wp2_with fail
      go_ret
      exact ⟨ret_bool HR.out.symm, HB1.out⟩
    · have HR := Lib.hid (show aheadB a b = false by unfold aheadB; simp [h1, h2])
      have h2d : (a.time == b.time) = false := by simpa using h2
      clear h1 h2
      go_enter Try.func117, Try.ntmps117
      go_wp2_with fail
      go_ret
      exact ⟨ret_bool HR.out.symm, HB0.out⟩
end Go.Proofs.Yteockodnfempfaa
