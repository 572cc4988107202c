import Derived.Test.YtjjlhemenokdhaaGreatAbPure3
namespace Go.Ab
section
variable {tb : Tab} {μ : Mu} {w : World}

theorem out_some {α : Type} {x : Option α} {f : α → Value} {v : Value} (h : x.map f = some v) : ∃ a, x = some a ∧ f a = v := by
  cases x with
  | none => cases h
  | some a => exact ⟨a, rfl, by simpa using h⟩

theorem run_places (ht : TabOK tb) : ∀ (fs : List Field) (l : List (Nat × Nat)), places? tb fs = some l → ∀ w, (fs.mapM fun f => do pure (f.offset, ← sizeOf f.type) : Sem (List (Nat × Nat))).run tb.P w = .ok l w
  | [], l, h, w => by simp only [places?, Option.some.injEq] at h; subst h; rfl
  | f :: fs, l, h, w => by
    simp only [places?] at h
    cases hs : sizeOf? tb f.type with
    | none => rw [hs] at h; cases h
    | some n =>
      cases hp : places? tb fs with
      | none => rw [hs, hp] at h; cases h
      | some l' =>
        rw [hs, hp] at h
        cases h
        simp only [List.mapM_cons, Sem.run_bind, run_size ht hs, Result.andThen_ok, Sem.run_pure, run_places ht fs l' hp]

theorem build_sound (ht : TabOK tb) {ρ ρ' : Operand → Value} (hρ : ∀ x, VR μ (ρ x) (ρ' x)) {t : TypeId} {parts : Array (Nat × Operand)} {dst : Option Tmp} {ty : TypeId} {pos : String} {after : Array Edge} {guard : Option (Nat × Bool)} {v : Value}
    (h : apure tb ρ ⟨dst, .build t parts, ty, pos, after, guard⟩ = some v) (w : World) :
    ∃ v', (Instr.build t (parts.map fun (i, x) => (i, ρ' x))).run tb.P w = .ok v' w ∧ VR μ v v' := by
  simp only [apure] at h
  cases hz : zero? tb t with
  | none => rw [hz] at h; cases h
  | some z =>
    rw [hz] at h
    have hrz := run_zero ht hz w
    have hzz : AR μ z.cells z.cells := by
      have hzs : VR μ z z := zero_self ht hz
      have : isTop z = false := by
        unfold zero? at hz
        cases hi : tb.info.get t with
        | none => rw [hi] at hz; cases hz
        | some i => rw [hi] at hz; exact not_top (ht.zero t i z hi hz)
      exact AR.of (hzs.cells this)
    have hparts : All2 (fun (p q : Nat × Value) => p.1 = q.1 ∧ VR μ p.2 q.2) (parts.toList.map fun p => (p.1, ρ p.2)) ((parts.map fun (i, x) => (i, ρ' x)).toList) := by
      rw [Array.toList_map]
      exact All2.of_map _ fun p _ => ⟨rfl, hρ p.2⟩
    cases hu : under tb t with
    | none => rw [hu] at h; cases h
    | some d =>
      rw [hu] at h
      have hr := run_under ht hu
      cases d <;> first | (cases h; done) | skip
      · -- array
        rename_i len elem
        simp only at h
        cases hs : sizeOf? tb elem with
        | none => rw [hs] at h; cases h
        | some n =>
          rw [hs] at h
          simp only at h
          obtain ⟨cs, hcs, rfl⟩ := out_some h
          obtain ⟨y', hy, hyr⟩ := fill_sound hcs hparts hzz
          refine ⟨.agg y', ?_, VR.agg2 hyr.all2⟩
          simp only [Instr.build, Sem.run_bind, hrz, Result.andThen_ok, hr, run_size ht hs]
          rw [hy]; rfl
      · rename_i fields
        simp only at h
        cases hp : places? tb fields.toList with
        | none => rw [hp] at h; cases h
        | some l =>
        rw [hp] at h
        simp only at h
        obtain ⟨cs, hcs, rfl⟩ := out_some h
        obtain ⟨y', hy, hyr⟩ := fill_sound hcs hparts hzz
        refine ⟨.agg y', ?_, VR.agg2 hyr.all2⟩
        have hm : (fields.mapM fun f => do pure (f.offset, ← sizeOf f.type) : Sem (Array (Nat × Nat))).run tb.P w = .ok l.toArray w := by
          rw [Array.mapM_eq_mapM_toList]
          simp only [Sem.run_map, run_places ht fields.toList l hp, Result.andThen_ok]
        have hy' : Instr.fill (fun i => l.toArray[i]?) z.cells (parts.map fun (i, x) => (i, ρ' x)).toList = some y' := by
          rw [← hy]; congr 1; funext i; simp
        simp only [Instr.build, Sem.run_bind, hrz, Result.andThen_ok, hr, hm]
        rw [hy']; rfl

theorem VR.nilcheck {v v' : Value} (h : VR μ v v') {n : Next} (hn : n = .value v') : ∃ u, n = .value u ∧ VR μ v u := ⟨v', hn, h⟩

theorem nilCheck_sound (ht : TabOK tb) {ρ ρ' : Operand → Value} (hρ : ∀ x, VR μ (ρ x) (ρ' x)) {x : Operand} {dst : Option Tmp} {ty : TypeId} {pos : String} {after : Array Edge} {guard : Option (Nat × Bool)} {v : Value}
    (h : apure tb ρ ⟨dst, .nilCheck x, ty, pos, after, guard⟩ = some v) (w : World) :
    ∃ v', (execOp ρ' ⟨dst, .nilCheck x, ty, pos, after, guard⟩).run tb.P w = .ok (.value v') w ∧ VR μ v v' := by
  have hx := hρ x
  simp only [apure] at h
  simp only [execOp]
  generalize ρ x = a at h hx
  generalize ρ' x = a' at hx ⊢
  split at h
  · cases h
    cases hx with
    | ptr hB => exact ⟨_, rfl, .ptr hB⟩
  · cases h
    cases hx with
    | iface hv => exact ⟨_, rfl, .iface hv⟩
  · -- a method of an interface value
    rename_i name first cap
    split at h
    · rename_i t u hfirst
      cases hi : tb.info.get t with
      | none => rw [hi] at h; cases h
      | some i =>
        rw [hi] at h
        simp only at h
        cases hm : i.methods.find? (fun m => m.name == name) with
        | none => rw [hm] at h; cases h
        | some m =>
          rw [hm] at h
          simp only at h
          cases hp : m.path.isEmpty with
          | false => rw [hp] at h; cases h
          | true =>
            rw [hp] at h
            simp only [cond_true] at h
            have hv : v = .func (.method name) first cap ∧ ∃ f p d, m.func = some (f, p) ∧ under tb t = some d ∧ (p = false → ∀ e, d ≠ .pointer e) := by
              split at h
              · rename_i f d hf hu; cases h; exact ⟨rfl, f, true, d, hf, hu, by simp⟩
              · cases h
              · rename_i f d hne hf hu; cases h; exact ⟨rfl, f, false, _, hf, hu, fun _ e he => hne e he⟩
              · cases h
            obtain ⟨rfl, f, p, d, hf, hu, hd⟩ := hv
            cases hx with
            | func hfn hx hy hr hk =>
              rename_i f' x' y'
              cases hfn with
              | same _ =>
              -- the receiver there
              have hsz : ∃ u', x'[0]? = some u' ∧ VR μ (.iface t u) u' := by
                have h0 : 0 < first.size := by
                  rcases Nat.lt_or_ge 0 first.size with h0 | h0
                  · exact h0
                  · rw [Array.getElem?_eq_none h0] at hfirst; cases hfirst
                have h1 : 0 < x'.size := by omega
                exact ⟨x'[0], by simp [h1], hr 0 _ _ hfirst (by simp [h1])⟩
              obtain ⟨u', hu', hru⟩ := hsz
              cases hru with
              | iface hvv =>
                rename_i u''
                refine ⟨.func (.method name) x' y', ?_, .func (.same (by simp)) hx hy hr hk⟩
                have hna := method_ahead ht hi hm hp hf hu hd u'' (tb.P.types.size + 99) w
                have hna' : (nilAhead (tb.P.types.size + Made.depth) t u'' name).run tb.P w = .ok (some false) w := hna
                simp only [hu', Sem.run_bind, run_program, Result.andThen_ok, hna']
                rfl
    · cases h
  · rename_i fn f c hne
    cases h
    cases hx with
    | func hfn hx hy hr hk =>
      rename_i f' x' y'
      refine ⟨.func f' x' y', ?_, .func hfn hx hy hr hk⟩
      cases hfn with
      | yield h => rfl
      | same hs =>
        cases fn <;> first | rfl | exact (hne _ rfl).elim | exact (hne _ _ _ rfl).elim
  · cases h

end
end Go.Ab
