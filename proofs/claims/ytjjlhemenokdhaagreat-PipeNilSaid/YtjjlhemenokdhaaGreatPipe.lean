/-
  PipeNil: the whole call is run by the executor (the Ab texts), whatever the argument; then the row.
-/
import Derived.Test.YtjjlhemenokdhaaGreatRows
import Derived.Test.YtjjlhemenokdhaaGreatSays
import Derived.Test.YtjjlhemenokdhaaGreatFacts
import Derived.Test.YtjjlhemenokdhaaGreatClosed
import Derived.ProofKit
namespace Go.Proofs.YtjjlhemenokdhaaGreat
open Go.ChangeShapes Go.WideShapes Go.ChangeAt Go.RowKit

theorem pipeNil_body : ∃ c, Tryz.f3.body = some c := ⟨_, rfl⟩

theorem pipeNil_any (v v' : Value) (W : World) : Calls Tryz.prog 3 #[v, v'] W fun e W' => e = .returned (.bool true) ∧ Below W.heap.size W W' := by
  obtain ⟨c, hc⟩ := pipeNil_body
  exact Ab.calls_of (Ab.tabOf_ok Tryz.zeros Tryz.names) Ab.tabOf_sums rfl pipeNil_says Tryz.func3 hc #[v, v'] (.cons (.top _ _ _ _) (.cons (.top _ _ _ _) .nil)) W

set_option maxRecDepth 100000 in
theorem pipeNil_lifted (os : Os) (started : os.Started) (H : Type) (enc : TypeId × Value → H) :
    ReturnsInHanded {} Tryz.checked os 3 .any (Rows.pipeNilSpec.pre6 enc Tryz.prog Tryz.f3 Rows.pipeNilRow.domain false) (Rows.pipeNilSpec.post enc Tryz.prog Tryz.f3 false true false false) := by
  refine returnsInHanded_of_change (C := Tryz.checked) Tryz.own started (by kernel_rfl) Tryz.func3
    (ChangeSpec.witness6 (enc := enc) (C := Tryz.checked) false ⟨#[], #[.int .i64 0, .bool false], []⟩ 8 (by kernel_rfl) (by kernel_rfl) (by kernel_rfl) (by kernel_rfl)) ?_
  intro W base args ds gs before hval0 hW hcnd _
  have hW' := hW
  obtain ⟨p, q, hA0, hV, rfl, hfz, hnd⟩ := hW
  have hA : DataW.TrodAll enc Tryz.prog W 0 (fun _ => true) true Tryz.f3.params.toList args.toList ds p := hA0
  rw [Tryz.params3] at hA
  obtain ⟨v0, v1, d0, d1, p0, p1, rfl, rfl, rfl, h0, h1⟩ := trodAll_two hA
  obtain ⟨rfl, rfl⟩ := trodVars_none hV
  clear hA0 hval0
  simp only [List.append_nil] at hW'
  have hlt : ∀ x ∈ p0 ++ p1, x.block < W.heap.size := fun x hx => by simpa using hW'.lt x hx
  have harg0 : ∀ (W' : World), Below W.heap.size W W' → DataW.Trod enc Tryz.prog W' 0 (fun b => decide (b < W.heap.size)) true 3 v0 d0 p0 :=
    fun W' hn => Below.trod Tryz.laidOut Tryz.readable3 Tryz.row3 h0 hn fun x hx => hlt x (by simp [hx])
  have harg1 : ∀ (W' : World), Below W.heap.size W W' → DataW.Trod enc Tryz.prog W' 0 (fun b => decide (b < W.heap.size)) true 4 v1 d1 p1 :=
    fun W' hn => Below.trod Tryz.laidOut Tryz.readable4 Tryz.row4 h1 hn fun x hx => hlt x (by simp [hx])
  refine (pipeNil_any v0 v1 W).mono fun e W' ⟨he, hnx⟩ => ?_
  subst he
  exact ⟨_, rfl, _, _, _, [], _, [], hW', trodAll_mk1 (shut_bool Tryz.underlying4 true), trodAll_mk2 (harg0 _ hnx) (harg1 _ hnx), rfl, hnx.frame _, fun h => by cases h⟩

theorem pipeNil_holds : Rows.PipeNilSaid :=
  OpenClaim.holds_of_wide 3 Tryz.f3 rfl rfl rfl rfl rfl rfl rfl ⟨rfl, rfl, rfl, rfl, rfl⟩ rfl rfl rfl rfl rfl pipeNil_named Tryz.func3 pipeNil_closed pipeNil_inst pipeNil_wrap
    (fun os started H enc _ => pipeNil_lifted os started H enc)

#print axioms pipeNil_holds

end Go.Proofs.YtjjlhemenokdhaaGreat
