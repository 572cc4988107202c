/-
  StepNil: the whole call, run by the executor (the Ab texts), whatever the argument.
-/
import Derived.Test.YtpoloifajiohnaaGreatProg
import Derived.Test.YtpoloifajiohnaaGreatAbTop
namespace Go.Proofs.YtpoloifajiohnaaGreat

set_option maxRecDepth 1000000 in
theorem stepNil_says : Ab.saysTrue (Ab.tabOf Tryz.prog 0) 1000000 200 3 [Ab.top] = true := by kernel_rfl

end Go.Proofs.YtpoloifajiohnaaGreat
