/-
  StepNil: the whole call is run by the executor (the Ab texts), whatever the argument; then the row.
-/
import Derived.Test.YtpoloifajiohnaaGreatRows
import Derived.Test.YtpoloifajiohnaaGreatSays
import Derived.Test.YtpoloifajiohnaaGreatFacts
import Derived.Test.YtpoloifajiohnaaGreatClosed
import Derived.ProofKit
namespace Go.Proofs.YtpoloifajiohnaaGreat
open Go.ChangeShapes Go.WideShapes Go.ChangeAt Go.RowKit

theorem stepNil_body : ∃ c, Tryz.f3.body = some c := ⟨_, rfl⟩

theorem stepNil_any (v : Value) (W : World) : Calls Tryz.prog 3 #[v] W fun e W' => e = .returned (.bool true) ∧ Below W.heap.size W W' := by
  obtain ⟨c, hc⟩ := stepNil_body
  exact Ab.calls_of (Ab.tabOf_ok Tryz.zeros Tryz.names) rfl stepNil_says Tryz.func3 hc #[v] (.cons (.top _ _ _ _) .nil) W

set_option maxRecDepth 100000 in
theorem stepNil_lifted (os : Os) (started : os.Started) (H : Type) (enc : TypeId × Value → H) :
    ReturnsInHanded {} Tryz.checked os 3 .any (Rows.stepNilSpec.pre6 enc Tryz.prog Tryz.f3 Rows.stepNilRow.domain false) (Rows.stepNilSpec.post enc Tryz.prog Tryz.f3 false true false false) := by
  refine returnsInHanded_of_change (C := Tryz.checked) Tryz.own started (by kernel_rfl) Tryz.func3
    (ChangeSpec.witness6 (enc := enc) (C := Tryz.checked) false ⟨#[], #[.slice none 0 0], []⟩ 8 (by kernel_rfl) (by kernel_rfl) (by kernel_rfl) (by kernel_rfl)) ?_
  intro W base args ds gs before hval0 hW hcnd _
  have hW' := hW
  obtain ⟨p, q, hA0, hV, rfl, hfz, hnd⟩ := hW
  have hA : DataW.TrodAll enc Tryz.prog W 0 (fun _ => true) true Tryz.f3.params.toList args.toList ds p := hA0
  rw [Tryz.params3] at hA
  obtain ⟨v0, d0, rfl, rfl, h0⟩ := trodAll_one hA
  obtain ⟨rfl, rfl⟩ := trodVars_none hV
  clear hA0 hval0
  simp only [List.append_nil] at hW'
  have hlt : ∀ x ∈ p, x.block < W.heap.size := fun x hx => by simpa using hW'.lt x hx
  have hargs : ∀ (W' : World), Below W.heap.size W W' → DataW.Trod enc Tryz.prog W' 0 (fun b => decide (b < W.heap.size)) true 22 v0 d0 p :=
    fun W' hn => Below.trod Tryz.laidOut Tryz.readable22 Tryz.row22 h0 hn hlt
  refine (stepNil_any v0 W).mono fun e W' ⟨he, hnx⟩ => ?_
  subst he
  exact ⟨_, rfl, _, _, _, [], _, [], hW', trodAll_mk1 (shut_bool Tryz.underlying4 true), trodAll_mk1 (hargs _ hnx), rfl, hnx.frame _, fun h => by cases h⟩

theorem stepNil_holds : Rows.StepNilSaid :=
  OpenClaim.holds_of_wide 3 Tryz.f3 rfl rfl rfl rfl rfl rfl rfl ⟨rfl, rfl, rfl, rfl, rfl⟩ rfl rfl rfl rfl rfl stepNil_named Tryz.func3 stepNil_closed stepNil_inst stepNil_wrap
    (fun os started H enc _ => stepNil_lifted os started H enc)

#print axioms stepNil_holds

end Go.Proofs.YtpoloifajiohnaaGreat
