/-
  Facts of the program's tables.
-/
import Derived.Test.YtpoloifajiohnaaGreatRows
import Derived.Test.YtpoloifajiohnaaGreatAbTop
import Derived.ProofKit
namespace Go.Proofs.YtpoloifajiohnaaGreat
open Go.ChangeShapes Go.WideShapes Go.ChangeAt Go.RowKit

theorem Tryz.own : ownKnob Tryz.prog.godebug = none := by kernel_rfl
theorem Tryz.laidOut : laidOutB Tryz.prog = true := by kernel_rfl
theorem Tryz.zeros : Ab.zerosOk Tryz.prog = true := by kernel_rfl
theorem Tryz.names : Ab.namesOk Tryz.prog = true := by kernel_rfl
theorem Tryz.readable22 : Tryz.prog.readableRec 22 = true := by kernel_rfl
theorem Tryz.row22 : 22 < Tryz.prog.types.size := of_decide_eq_true (by kernel_rfl)

end Go.Proofs.YtpoloifajiohnaaGreat
