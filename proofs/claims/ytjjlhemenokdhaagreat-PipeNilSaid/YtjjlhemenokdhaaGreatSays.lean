/-
  PipeNil: the whole call, run by the executor (the Ab texts), whatever the arguments.
-/
import Derived.Test.YtjjlhemenokdhaaGreatProg
import Derived.Test.YtjjlhemenokdhaaGreatAbTop
namespace Go.Proofs.YtjjlhemenokdhaaGreat

set_option maxRecDepth 1000000 in
theorem pipeNil_says : Ab.saysTrue (Ab.tabOf Tryz.prog 0) 1000000 200 3 [Ab.top, Ab.top] = true := by kernel_rfl

end Go.Proofs.YtjjlhemenokdhaaGreat
