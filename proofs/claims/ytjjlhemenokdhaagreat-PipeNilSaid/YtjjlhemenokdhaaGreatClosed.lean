/-
  Facts of what the function reaches: each a theorem of its own (one declaration of all of them passes the kernel's limit on memory).
-/
import Derived.Test.YtjjlhemenokdhaaGreatRows
import Derived.ProofKit
namespace Go.Proofs.YtjjlhemenokdhaaGreat
open Go.ChangeShapes Go.WideShapes Go.ChangeAt Go.RowKit

theorem c_laid : laidOutB Tryz.pinned.checked.prog = true := by kernel_rfl
theorem c_maps : mapsRowed Tryz.pinned.checked.prog = true := by kernel_rfl
theorem c_place : (Rows.pipeNilRow.inPlace == Tryz.pinned.checked.prog.inPlace 3) = true := by kernel_rfl
theorem c_unf : (Rows.pipeNilRow.unfollowed == Tryz.pinned.checked.prog.unfollowed 3) = true := by kernel_rfl
theorem c_rec : (Rows.pipeNilRow.recurses == Tryz.pinned.checked.prog.recurses 3) = true := by kernel_rfl
theorem c_named : (Rows.pipeNilRow.named == Tryz.pinned.checked.prog.varsNamed 3) = true := by kernel_rfl
theorem c_keys : (Rows.pipeNilRow.plainKeys == Tryz.pinned.checked.prog.plainKeys) = true := by kernel_rfl

theorem pipeNil_closed : joinedFacts Tryz.pinned.checked.prog 3 Tryz.f3 Rows.pipeNilSpec Rows.pipeNilRow = true := by
  unfold joinedFacts
  rw [c_laid, c_maps, c_place, c_unf, c_rec, c_named, c_keys]
  kernel_rfl

theorem pipeNil_named : Tryz.pinned.checked.prog.funcNamed Rows.pipeNilRow.func = some 3 := by kernel_rfl
theorem pipeNil_inst : Tryz.f3.isInstance Tryz.pinned.checked.prog Rows.pipeNilRow.origin Rows.pipeNilRow.targs := of_decide_eq_true (by kernel_rfl)
theorem pipeNil_wrap : Tryz.f3.isWrapper Tryz.pinned.checked.prog Rows.pipeNilRow.wrapper Rows.pipeNilRow.mainSum := by
  unfold Func.isWrapper; first | (rw [if_pos (by decide +kernel)]; kernel_rfl) | (rw [if_neg (by decide +kernel)]; exact ⟨rfl, rfl⟩)

end Go.Proofs.YtjjlhemenokdhaaGreat
