/-
  Facts of the program's tables.
-/
import Derived.Test.YtjjlhemenokdhaaGreatRows
import Derived.Test.YtjjlhemenokdhaaGreatAbTop
import Derived.ProofKit
namespace Go.Proofs.YtjjlhemenokdhaaGreat
open Go.ChangeShapes Go.WideShapes Go.ChangeAt Go.RowKit

theorem Tryz.own : ownKnob Tryz.prog.godebug = none := by kernel_rfl
theorem Tryz.laidOut : laidOutB Tryz.prog = true := by kernel_rfl
theorem Tryz.zeros : Ab.zerosOk Tryz.prog = true := by kernel_rfl
theorem Tryz.names : Ab.namesOk Tryz.prog = true := by kernel_rfl
theorem Tryz.readable3 : Tryz.prog.readableRec 3 = true := by kernel_rfl
theorem Tryz.readable4 : Tryz.prog.readableRec 4 = true := by kernel_rfl
theorem Tryz.row3 : 3 < Tryz.prog.types.size := of_decide_eq_true (by kernel_rfl)
theorem Tryz.row4 : 4 < Tryz.prog.types.size := of_decide_eq_true (by kernel_rfl)

end Go.Proofs.YtjjlhemenokdhaaGreat
