import Derived.Test.YtjjlhemenokdhaaGreatAbOp
import Derived.Orders
namespace Go.Ab

section
variable {tb : Tab} {ρ ρ' : Operand → Value} {o : Oper}

theorem parts_congr {ps : Array (Nat × Operand)} (h : ∀ x ∈ (ps.toList.map (·.2)).toArray, ρ x = ρ' x) : (ps.toList.map fun p => (p.1, ρ p.2)) = ps.toList.map fun p => (p.1, ρ' p.2) :=
  List.map_congr_left fun p hp => by rw [h p.2 (by simp only [List.mem_toArray, List.mem_map]; exact ⟨p, hp, rfl⟩)]

theorem opt_congr {l : Option Operand} (h : ∀ x ∈ l.toArray, ρ x = ρ' x) : l.map ρ = l.map ρ' := by
  cases l with
  | none => rfl
  | some x => simp [h x (by simp)]

theorem arr_congr {l : Array Operand} (h : ∀ x ∈ l, ρ x = ρ' x) : l.map ρ = l.map ρ' := Array.map_congr_left h

theorem list_congr {l : Array Operand} (h : ∀ x ∈ l, ρ x = ρ' x) : l.toList.map ρ = l.toList.map ρ' := List.map_congr_left fun x hx => h x (by simpa using hx)

theorem apure_congr (h : ∀ x ∈ o.op.operands, ρ x = ρ' x) : apure tb ρ o = apure tb ρ' o := by
  obtain ⟨dst, op, ty, pos, after, guard⟩ := o
  cases op <;> simp only [Op.operands] at h <;> unfold apure <;> simp only
  case build t ps => rw [parts_congr h]
  case makeFunc fn first cap =>
    rw [arr_congr (l := first) fun x hx => h x (by simp [hx]), arr_congr (l := cap) fun x hx => h x (by simp [hx])]
  case slice t x lo hi mx =>
    rw [h x (by simp), opt_congr (l := lo) fun y hy => h y (by simp at hy; simp [hy]), opt_congr (l := hi) fun y hy => h y (by simp at hy; simp [hy]), opt_congr (l := mx) fun y hy => h y (by simp at hy; simp [hy])]
  case call c =>
    obtain ⟨callee, args, argTypes⟩ := c
    have ha : ∀ x ∈ args.toList, ρ x = ρ' x := fun x hx => h x (by simp only [Call.operands]; simp at hx; cases callee <;> simp [hx])
    have hm : args.map ρ = args.map ρ' := Array.map_congr_left fun x hx => ha x (by simpa using hx)
    have hl : args.toList.map ρ = args.toList.map ρ' := List.map_congr_left ha
    cases callee with
    | builtin b =>
      cases b <;> first
        | rfl
        | (simp only [hl, hm]; done)
        | (generalize args.toList = l at ha; generalize argTypes.toList = k; rcases l with _ | ⟨x, _ | ⟨y, _ | ⟨z, l⟩⟩⟩ <;> rcases k with _ | ⟨t, _ | ⟨u, _ | ⟨v, k⟩⟩⟩ <;> first | rfl | (rw [ha x (by simp)]; done) | (rw [ha x (by simp), ha y (by simp)]; done) | (simp only [ha x (by simp)]; done) | (simp only [ha x (by simp), ha y (by simp)]; done))
    | _ => rfl
  all_goals (first | rfl | (simp at h; simp [h]; done) | (simp at h; simp only [h]; done))

theorem aread_congr {m : Mem} (h : ∀ x ∈ o.op.operands, ρ x = ρ' x) : aread tb ρ o m = aread tb ρ' o m := by
  obtain ⟨dst, op, ty, pos, after, guard⟩ := o
  cases op <;> simp only [Op.operands] at h <;> unfold aread <;> simp only
  case slice t x lo hi mx =>
    rw [h x (by simp), opt_congr (l := lo) fun y hy => h y (by simp at hy; simp [hy]), opt_congr (l := hi) fun y hy => h y (by simp at hy; simp [hy]), opt_congr (l := mx) fun y hy => h y (by simp at hy; simp [hy])]
  case call c =>
    obtain ⟨callee, args, argTypes⟩ := c
    have ha : ∀ x ∈ args.toList, ρ x = ρ' x := fun x hx => h x (by simp only [Call.operands]; simp at hx; cases callee <;> simp [hx])
    cases callee with
    | builtin b =>
      cases b <;> first
        | rfl
        | (generalize args.toList = l at ha; generalize argTypes.toList = k; rcases l with _ | ⟨x, _ | ⟨y, _ | ⟨z, l⟩⟩⟩ <;> rcases k with _ | ⟨t, _ | ⟨u, _ | ⟨v, k⟩⟩⟩ <;> first | rfl | (rw [ha x (by simp)]; done) | (rw [ha x (by simp), ha y (by simp)]; done) | (simp only [ha x (by simp)]; done) | (simp only [ha x (by simp), ha y (by simp)]; done))
    | _ => rfl
  all_goals (first | rfl | (simp at h; simp [h]; done) | (simp at h; simp only [h]; done))

theorem makes_congr (h : ∀ x ∈ o.op.operands, ρ x = ρ' x) : makes? tb ρ o = makes? tb ρ' o := by
  obtain ⟨dst, op, ty, pos, after, guard⟩ := o
  cases op <;> simp only [Op.operands] at h <;> unfold makes? <;> simp only
  case buildSlice t n ps => rw [parts_congr h]
  case makeMap t r => cases r <;> first | rfl | (simp at h; simp [h]; done)
  all_goals (first | rfl | (simp at h; simp [h]; done) | (simp at h; simp only [h]; done))

theorem amem_congr {m : Mem} (h : ∀ x ∈ o.op.operands, ρ x = ρ' x) : amem tb ρ o m = amem tb ρ' o m := by
  obtain ⟨dst, op, ty, pos, after, guard⟩ := o
  cases op <;> simp only [Op.operands] at h <;> unfold amem <;> simp only
  case next x str => cases str <;> first | rfl | (simp only; rw [h x (by simp)])
  case call c =>
    obtain ⟨callee, args, argTypes⟩ := c
    have ha : ∀ x ∈ args.toList, ρ x = ρ' x := fun x hx => h x (by simp only [Call.operands]; simp at hx; cases callee <;> simp [hx])
    cases callee with
    | builtin b =>
      cases b <;> first
        | rfl
        | (generalize args.toList = l at ha; generalize argTypes.toList = k; rcases l with _ | ⟨x, _ | ⟨y, _ | ⟨z, l⟩⟩⟩ <;> rcases k with _ | ⟨t, _ | ⟨u, _ | ⟨v, k⟩⟩⟩ <;> first | rfl | (rw [ha x (by simp)]; done) | (rw [ha x (by simp), ha y (by simp)]; done) | (simp only [ha x (by simp)]; done) | (simp only [ha x (by simp), ha y (by simp)]; done))
    | _ => rfl
  all_goals (first | rfl | (simp at h; simp [h]; done) | (simp at h; simp only [h]; done))

theorem target_congr {c : Call} (h : ∀ x ∈ c.operands, ρ x = ρ' x) : target? tb ρ c.callee (c.args.toList.map ρ) = target? tb ρ' c.callee (c.args.toList.map ρ') := by
  obtain ⟨callee, args, argTypes⟩ := c
  have ha : ∀ x ∈ args.toList, ρ x = ρ' x := fun x hx => h x (by simp only [Call.operands]; simp at hx; cases callee <;> simp [hx])
  rw [List.map_congr_left ha]
  cases callee with
  | builtin b => rfl
  | value f => simp only [target?, h f (by simp [Call.operands])]
  | invoke r n => simp only [target?, h r (by simp [Call.operands])]

theorem actl_congr {run : Runner} {rd : Option Nat} {z : Nz} (h : ∀ x ∈ o.op.operands, ρ x = ρ' x) : actl tb run rd ρ o z = actl tb run rd ρ' o z := by
  obtain ⟨dst, op, ty, pos, after, guard⟩ := o
  cases op <;> simp only [Op.operands] at h <;> unfold actl <;> simp only
  case call c =>
    have ht := target_congr (tb := tb) h
    obtain ⟨callee, args, argTypes⟩ := c
    cases callee with
    | builtin b => cases b <;> rfl
    | value f => simp only at ht ⊢; rw [ht]
    | invoke r n => simp only at ht ⊢; rw [ht]
  case defer c =>
    obtain ⟨callee, args, argTypes⟩ := c
    have ha : ∀ x ∈ args, ρ x = ρ' x := fun x hx => h x (by simp only [Call.operands]; cases callee <;> simp [hx])
    rw [arr_congr ha]
    cases rd with
    | some l => rfl
    | none =>
      cases callee with
      | value f =>
        simp only
        rw [h f (by simp [Call.operands])]
      | _ => rfl
  all_goals (first | rfl | (simp at h; simp [h]; done) | (simp at h; simp only [h]; done))

/-- An operation hangs on its operands alone. -/
theorem aoper_congr {run : Runner} {rd : Option Nat} {z : Nz} (h : ∀ x ∈ o.op.operands, ρ x = ρ' x) : aoper tb run rd ρ o z = aoper tb run rd ρ' o z := by
  rw [aoper_eq, aoper_eq]
  unfold aoperS
  rw [apure_congr h, aread_congr h, makes_congr h, amem_congr h, actl_congr h]

end
end Go.Ab
