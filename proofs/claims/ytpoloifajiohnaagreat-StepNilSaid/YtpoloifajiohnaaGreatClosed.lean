/-
  Facts of what the function reaches: each a theorem of its own (one declaration of all of them passes the kernel's limit on memory).
-/
import Derived.Test.YtpoloifajiohnaaGreatRows
import Derived.ProofKit
namespace Go.Proofs.YtpoloifajiohnaaGreat
open Go.ChangeShapes Go.WideShapes Go.ChangeAt Go.RowKit

theorem c_laid : laidOutB Tryz.pinned.checked.prog = true := by kernel_rfl
theorem c_maps : mapsRowed Tryz.pinned.checked.prog = true := by kernel_rfl
theorem c_place : (Rows.stepNilRow.inPlace == Tryz.pinned.checked.prog.inPlace 3) = true := by kernel_rfl
theorem c_unf : (Rows.stepNilRow.unfollowed == Tryz.pinned.checked.prog.unfollowed 3) = true := by kernel_rfl
theorem c_rec : (Rows.stepNilRow.recurses == Tryz.pinned.checked.prog.recurses 3) = true := by kernel_rfl
theorem c_named : (Rows.stepNilRow.named == Tryz.pinned.checked.prog.varsNamed 3) = true := by kernel_rfl
theorem c_keys : (Rows.stepNilRow.plainKeys == Tryz.pinned.checked.prog.plainKeys) = true := by kernel_rfl

theorem stepNil_closed : joinedFacts Tryz.pinned.checked.prog 3 Tryz.f3 Rows.stepNilSpec Rows.stepNilRow = true := by
  unfold joinedFacts
  rw [c_laid, c_maps, c_place, c_unf, c_rec, c_named, c_keys]
  kernel_rfl

theorem stepNil_named : Tryz.pinned.checked.prog.funcNamed Rows.stepNilRow.func = some 3 := by kernel_rfl
theorem stepNil_inst : Tryz.f3.isInstance Tryz.pinned.checked.prog Rows.stepNilRow.origin Rows.stepNilRow.targs := of_decide_eq_true (by kernel_rfl)
theorem stepNil_wrap : Tryz.f3.isWrapper Tryz.pinned.checked.prog Rows.stepNilRow.wrapper Rows.stepNilRow.mainSum := by
  unfold Func.isWrapper; first | (rw [if_pos (by decide +kernel)]; kernel_rfl) | (rw [if_neg (by decide +kernel)]; exact ⟨rfl, rfl⟩)

end Go.Proofs.YtpoloifajiohnaaGreat
