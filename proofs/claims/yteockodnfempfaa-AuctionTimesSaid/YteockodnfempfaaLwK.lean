/- Facts that the frames of all laws of this seat share. Conditions: none. -/
import Derived.Test.YteockodnfempfaaOpA
namespace Go.Proofs.Yteockodnfempfaa
open Go Go.RowKit Go.Gv
theorem ownK : ownKnob Try.prog.godebug = none := by kernel_rfl
theorem laidK : laidOutB Try.prog = true := by kernel_rfl
end Go.Proofs.Yteockodnfempfaa
