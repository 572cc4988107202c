import Derived.Test.YtjjlhemenokdhaaGreatAbPure2
namespace Go.Ab
section
variable {tb : Tab} {μ : Mu} {w : World}

theorem pureVal_sound {s : Sem Value} {v : Value} (h : pureVal tb s = some v) (w : World) : s.run tb.P w = .ok v w ∧ VR μ v v := by
  unfold pureVal at h
  cases hp : pureRun tb.P s with
  | none => rw [hp] at h; cases h
  | some u =>
    rw [hp] at h
    simp only at h
    cases hc : closed 2 u with
    | false => rw [hc] at h; cases h
    | true =>
      rw [hc] at h
      cases h
      exact ⟨pureRun_run hp w, closed_self 2 _ hc⟩

theorem eqGuard_int (op : BinOp) (t : TypeId) (x y : Operand) (k : IntKind) (a : Int) (v : Value) : eqGuard op t x y (.int k a) v = pure () := by cases op <;> rfl

theorem nilPair_rel {d : TypeDesc} {a b a' b' : Value} (h : nilPair d a b = true) (ha : VR μ a a') (hb : VR μ b b') : nilPair d a' b' = true := by
  unfold nilPair at h
  split at h <;> first | (cases h; done) | skip
  all_goals (cases ha <;> cases hb <;> rfl)

theorem nilPair_run {P : Program} {t : TypeId} {d : TypeDesc} {a b : Value} (h : nilPair d a b = true) (hu : ∀ w, (underlying t).run P w = .ok d w) (n : Nat) (w : World) :
    (Op.equalIn (n + 1) t a b).run P w = .ok false w := by
  unfold nilPair at h
  rw [Op.equalIn]
  simp only [Sem.run_bind, hu, Result.andThen_ok]
  split at h <;> first | (cases h; done) | rfl

theorem nilPair_guard {d : TypeDesc} {a b : Value} (h : nilPair d a b = true) (op : BinOp) (t : TypeId) (x y : Operand) : eqGuard op t x y a b = pure () := by
  unfold nilPair at h
  split at h <;> first | (cases h; done) | skip
  all_goals (cases op <;> rfl)

theorem nilPair_op {d : TypeDesc} {a b : Value} (h : nilPair d a b = true) (t : TypeId) :
    binOp .eql t a b = (do pure (.bool (← Op.equal t a b))) ∧ binOp .neq t a b = (do pure (.bool (!(← Op.equal t a b)))) := by
  unfold nilPair at h
  split at h <;> first | (cases h; done) | exact ⟨rfl, rfl⟩

theorem eqNil_sound (ht : TabOK tb) {t : TypeId} {d : TypeDesc} {op : BinOp} {a b a' b' v : Value} (x y : Operand) (hu : under tb t = some d) (h : eqNil? d op a b = some v) (ha : VR μ a a') (hb : VR μ b b') (w : World) :
    (do eqGuard op t x y a' b'; binOp op t a' b' : Sem Value).run tb.P w = .ok v w ∧ VR μ v v := by
  have hr := run_under ht hu
  have h' := h
  unfold eqNil? at h'
  cases hc : nilPair d a b with
  | false => rw [hc] at h'; cases h'
  | true =>
    rw [hc] at h'
    have hp := nilPair_rel hc ha hb
    have h1 : ∀ w, (Op.equal t a' b').run tb.P w = .ok false w := fun w => nilPair_run hp hr 9999 w
    obtain ⟨h4, h5⟩ := nilPair_op hp t
    cases op <;> first | (cases h'; done) | skip
    · cases h'
      refine ⟨?_, .bool _⟩
      rw [nilPair_guard hp, h4]
      simp only [Sem.run_bind, Sem.run_pure, Result.andThen_ok, h1]
    · cases h'
      refine ⟨?_, .bool _⟩
      rw [nilPair_guard hp, h5]
      simp only [Sem.run_bind, Sem.run_pure, Result.andThen_ok, h1, Bool.not_false]

theorem run_v {P : Program} {s : Sem Value} {v : Value} {w w' : World} (h : s.run P w = .ok v w') : (do pure (Next.value (← s)) : Sem Next).run P w = .ok (.value v) w' := by
  simp [h]

theorem binOp_sound (ht : TabOK tb) {ρ ρ' : Operand → Value} (hρ : ∀ x, VR μ (ρ x) (ρ' x)) {op : BinOp} {t yt : TypeId} {x y : Operand} {dst : Option Tmp} {ty : TypeId} {pos : String} {after : Array Edge} {guard : Option (Nat × Bool)} {v : Value}
    (h : apure tb ρ ⟨dst, .binOp op t x y yt, ty, pos, after, guard⟩ = some v) (w : World) :
    (do eqGuard op t x y (ρ' x) (ρ' y); binOp op t (ρ' x) (ρ' y) : Sem Value).run tb.P w = .ok v w ∧ VR μ v v := by
  have hx := hρ x
  have hy := hρ y
  simp only [apure] at h
  generalize ρ x = a at h hx
  generalize ρ y = b at h hy
  generalize ρ' x = a' at hx ⊢
  generalize ρ' y = b' at hy ⊢
  have hsplit : (∃ k i k' j, a = .int k i ∧ b = .int k' j ∧ pureVal tb (binOp op t (.int k i) (.int k' j)) = some v) ∨
      ((match (match under tb t with | some d => eqNil? d op a b | none => none) with
        | some v => some v
        | none => bif closed 6 a && closed 6 b then pureVal tb (do eqGuard op t x y a b; binOp op t a b) else none) = some v) := by
    split at h
    · rename_i k i k' j
      exact .inl ⟨k, i, k', j, rfl, rfl, h⟩
    · exact .inr h
  rcases hsplit with ⟨k, i, k', j, rfl, rfl, h⟩ | h
  · rw [hx.int_eq, hy.int_eq, eqGuard_int]
    exact pureVal_sound h w
  · split at h
    · rename_i u hu
      cases h
      cases hd : under tb t with
      | none => rw [hd] at hu; cases hu
      | some d => rw [hd] at hu; exact eqNil_sound ht x y hd hu hx hy w
    · cases hc : (closed 6 a && closed 6 b) with
      | false => rw [hc] at h; cases h
      | true =>
        rw [hc] at h
        simp only [Bool.and_eq_true] at hc
        rw [closed_eq 6 a hc.1 a' hx, closed_eq 6 b hc.2 b' hy]
        exact pureVal_sound h w

theorem getElem?_find {ms : Array Method} {name : String} {m : Method} (h : ms.find? (·.name == name) = some m) : ms.find? (fun m => m.name == name) = some m := h

theorem method_ahead (ht : TabOK tb) {t : TypeId} {i : TypeInfo} {m : Method} {name : String} {f : FuncId} {p : Bool} {d : TypeDesc} (hi : tb.info.get t = some i) (hm : i.methods.find? (·.name == name) = some m)
    (hp : m.path.isEmpty = true) (hf : m.func = some (f, p)) (hu : under tb t = some d) (hd : p = false → ∀ e, d ≠ .pointer e) (v : Value) (n : Nat) (w : World) :
    (nilAhead (n + 1) t v name).run tb.P w = .ok (some false) w := by
  have h1 := run_info ht hi w
  have hpath : m.path.toList = [] := by simpa using hp
  simp only [nilAhead, Sem.run_bind, h1, Result.andThen_ok, hm]
  rw [hpath]
  simp only [followBlind, Sem.run_pure, Result.andThen_ok, hf]
  cases p with
  | true => rfl
  | false =>
    have h2 := run_under ht hu w
    simp only [Sem.run_bind, h2, Result.andThen_ok]
    have := hd rfl
    cases d <;> first | rfl | exact absurd rfl (this _)

theorem ar_of_eq {x x' : Array Value} (hx : x.size = x'.size) (h : ∀ (i : Nat) (a b : Value), x[i]? = some a → x'[i]? = some b → VR μ a b) : AR μ x x' := ⟨hx, h⟩

theorem all2_args {ρ ρ' : Operand → Value} (hρ : ∀ x, VR μ (ρ x) (ρ' x)) (l : List Operand) : All2 (VR μ) (l.map ρ) (l.map ρ') :=
  All2.of_map l fun x _ => hρ x

theorem args_closed {ρ ρ' : Operand → Value} (hρ : ∀ x, VR μ (ρ x) (ρ' x)) {l : List Operand} (h : (l.map ρ).all (closed 1) = true) : l.map ρ' = l.map ρ := by
  apply List.map_congr_left
  intro x hx
  exact closed_eq 1 _ (List.all_eq_true.1 h _ (List.mem_map.2 ⟨x, hx, rfl⟩)) _ (hρ x)

end
end Go.Ab
