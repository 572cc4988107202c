import Derived.Test.YtjjlhemenokdhaaGreatAbRel
import Derived.Laws.Sem
import Derived.Laws.World
namespace Go.Ab

structure TabOK (tb : Tab) : Prop where
  info : ∀ t i, tb.info.get t = some i → tb.P.info? t = some i
  zero : ∀ t i z, tb.info.get t = some i → i.zero = some z → closed 20 z = true
  fn : ∀ f x, tb.fn.get f = some x → tb.P.funcs[f]? = some x ∧ x.name ≠ "runtime.NumGoroutine"

section
variable {tb : Tab} {μ : Mu} {w : World}

theorem pureRun_run {α : Type} {P : Program} {s : Sem α} {a : α} (h : pureRun P s = some a) (w : World) : s.run P w = .ok a w := by
  induction s with
  | pure b => simp [pureRun] at h; subst h; rfl
  | program k ih => simp only [pureRun] at h; simp only [Sem.run]; exact ih P h
  | mark m k ih => simp only [pureRun] at h; simp only [Sem.run]; exact ih h
  | _ => simp [pureRun] at h

theorem under_ok (ht : TabOK tb) {t : TypeId} {d : TypeDesc} (h : under tb t = some d) : tb.P.underlying t = some d := by
  unfold under at h
  split at h
  · rename_i i hi
    have h1 := ht.info _ _ hi
    split at h
    · rename_i n u hd
      cases hu : tb.info.get u with
      | none => rw [hu] at h; cases h
      | some j =>
        rw [hu] at h
        have h2 := ht.info _ _ hu
        obtain ⟨desc, _, _, _, _, _, _, _, _, _⟩ := i
        simp only at hd
        subst hd
        simp only [Program.underlying, h1, h2]
        exact h
    · rename_i hd
      obtain ⟨desc, _, _, _, _, _, _, _, _, _⟩ := i
      simp only [Option.some.injEq] at h
      subst h
      unfold Program.underlying
      rw [h1]
      cases desc <;> first | rfl | exact absurd rfl (hd _ _)
  · cases h

theorem run_under (ht : TabOK tb) {t : TypeId} {d : TypeDesc} (h : under tb t = some d) (w : World) : (underlying t).run tb.P w = .ok d w := by
  simp [underlying, under_ok ht h]

theorem run_info (ht : TabOK tb) {t : TypeId} {i : TypeInfo} (h : tb.info.get t = some i) (w : World) : (typeInfo t).run tb.P w = .ok i w := by
  simp [typeInfo, ht.info _ _ h]

theorem run_size (ht : TabOK tb) {t : TypeId} {n : Nat} (h : sizeOf? tb t = some n) (w : World) : (sizeOf t).run tb.P w = .ok n w := by
  unfold sizeOf? at h
  cases hi : tb.info.get t with
  | none => rw [hi] at h; cases h
  | some i => rw [hi] at h; cases h; simp [sizeOf, run_info ht hi]

theorem run_zero (ht : TabOK tb) {t : TypeId} {z : Value} (h : zero? tb t = some z) (w : World) : (zeroValue t).run tb.P w = .ok z w := by
  unfold zero? at h
  cases hi : tb.info.get t with
  | none => rw [hi] at h; cases h
  | some i => rw [hi] at h; simp only at h; simp [zeroValue, run_info ht hi, h]

theorem zero_self (ht : TabOK tb) {t : TypeId} {z : Value} (h : zero? tb t = some z) : VR μ z z := by
  unfold zero? at h
  cases hi : tb.info.get t with
  | none => rw [hi] at h; cases h
  | some i => rw [hi] at h; exact closed_self 20 z (ht.zero t i z hi h)

theorem run_agg (ht : TabOK tb) {t : TypeId} {b : Bool} (h : isAgg? tb t = some b) (w : World) : (isAgg t).run tb.P w = .ok b w := by
  unfold isAgg? at h
  cases hu : under tb t with
  | none => rw [hu] at h; cases h
  | some d =>
    rw [hu] at h
    have hr := run_under ht hu w
    cases d <;> simp only [Option.some.injEq] at h <;> subst h <;> simp [isAgg, hr]

theorem part_sound (ht : TabOK tb) {t : TypeId} {cs cs' : Array Value} {off : Nat} {v : Value} (h : part? tb t cs off = some v) (hc : All2 (VR μ) cs.toList cs'.toList) (w : World) :
    ∃ v', (part t cs' off).run tb.P w = .ok v' w ∧ VR μ v v' := by
  unfold part? at h
  cases ha : isAgg? tb t with
  | none => rw [ha] at h; cases h
  | some b =>
    rw [ha] at h
    cases b with
    | true =>
      simp only at h
      cases hs : sizeOf? tb t with
      | none => rw [hs] at h; cases h
      | some n =>
        rw [hs] at h; cases h
        refine ⟨.agg (cs'.extract off (off + n)), by simp [part, run_agg ht ha, run_size ht hs], VR.agg2 ?_⟩
        simp only [Array.toList_extract, List.extract_eq_take_drop]
        exact (hc.drop off).take _
    | false =>
      simp only at h
      obtain ⟨v', h1, h2⟩ := hc.get off v (by simpa using h)
      have h1' : cs'[off]? = some v' := by simpa using h1
      exact ⟨v', by simp [part, run_agg ht ha, h1'], h2⟩

theorem VR.int_eq {k : IntKind} {n : Int} {v' : Value} (h : VR μ (.int k n) v') : v' = .int k n := by cases h; rfl
theorem VR.bool_eq {b : Bool} {v' : Value} (h : VR μ (.bool b) v') : v' = .bool b := by cases h; rfl
theorem VR.string_eq {s : ByteArray} {v' : Value} (h : VR μ (.string s) v') : v' = .string s := by cases h; rfl

/-- Addresses: spot none. -/
theorem Addr.add_mk (b o n : Nat) : (⟨b, o, none⟩ : Addr).add n = ⟨b, o + n, none⟩ := by
  unfold Addr.add; split
  · rename_i h; subst h; rfl
  · rfl

theorem VR.ptr_add {a : Addr} {v' : Value} (n : Nat) (h : VR μ (.pointer (some a)) v') : ∃ a', v' = .pointer (some a') ∧ VR μ (.pointer (some (a.add n))) (.pointer (some (a'.add n))) := by
  cases h with
  | ptr h =>
    refine ⟨_, rfl, ?_⟩
    rw [Addr.add_mk, Addr.add_mk, Nat.add_assoc]
    exact .ptr h

theorem sliceBound_sound {v v' : Value} {y y' n : Nat} (code : BoundsCode) (h : sliceBound? v y = some n) (hv : VR μ v v') (hy : y ≤ y') (w : World) :
    (Instr.sliceBound v' y' code).run tb.P w = .ok n w ∧ n ≤ y := by
  unfold sliceBound? at h
  cases v with
  | int k i =>
    rw [hv.int_eq]
    simp only at h
    cases hc : (decide (0 ≤ i) && decide (i ≤ (y : Int))) with
    | false => rw [hc] at h; cases h
    | true =>
      rw [hc] at h
      simp only [Bool.and_eq_true, decide_eq_true_eq] at hc
      simp only [cond_true, Option.some.injEq] at h
      subst h
      refine ⟨?_, by omega⟩
      have : 0 ≤ i ∧ i ≤ (y' : Int) := ⟨hc.1, by omega⟩
      simp [Instr.sliceBound, asIntOf, this]
  | _ => cases h

/-- Options of values. -/
inductive OR (μ : Mu) : Option Value → Option Value → Prop
  | none : OR μ none none
  | some {v v' : Value} (h : VR μ v v') : OR μ (some v) (some v')

theorem OR.map {ρ ρ' : Operand → Value} (hρ : ∀ x, VR μ (ρ x) (ρ' x)) (x : Option Operand) : OR μ (x.map ρ) (x.map ρ') := by
  cases x with
  | none => exact .none
  | some x => exact .some (hρ x)

theorem low_sound {β : Type} {lo lo' : Option Value} {h l : Nat} (code : BoundsCode) (f : Nat → Sem β) (hl : low? lo h = some l) (hr : OR μ lo lo') (w : World) :
    (match lo' with | some v => (do let l ← Instr.sliceBound v h code; f l) | none => (do let l ← pure 0; f l)).run tb.P w = (f l).run tb.P w ∧ l ≤ h := by
  cases hr with
  | none => simp only [low?, Option.some.injEq] at hl; subst hl; exact ⟨rfl, by omega⟩
  | some hv =>
    obtain ⟨r, hle⟩ := sliceBound_sound (tb := tb) code hl hv (Nat.le_refl _) w
    exact ⟨by simp only [Sem.run_bind, r, Result.andThen_ok], hle⟩

/-- The bounds, as they come: cap' the capacity there is. -/
theorem bounds_sound {isSlice : Bool} {len cap cap' l h c : Nat} {lo hi mx lo' hi' mx' : Option Value} (hb : bounds? len cap lo hi mx = some (l, h, c))
    (hl : OR μ lo lo') (hh : OR μ hi hi') (hm : OR μ mx mx') (hlen : len ≤ cap') (hcap : cap < capOpen → cap' = cap) (w : World) :
    ∃ m', (Instr.sliceBounds isSlice len cap' lo' hi' mx').run tb.P w = .ok (l, h, m') w ∧ l ≤ h ∧ h ≤ m' ∧ m' ≤ cap' ∧
      ((c < capOpen ∧ c = m' - l) ∨ (capOpen ≤ cap ∧ c = cap ∧ m' = cap' ∧ h ≤ len)) := by
  have hlim : limit len cap ≤ cap' := by
    unfold limit
    cases hc : Nat.blt cap capOpen with
    | true => rw [hcap (lt_of_blt hc)]; exact Nat.le_refl _
    | false => exact hlen
  unfold bounds? at hb
  cases hm with
  | some hm =>
    rename_i m m'
    cases hh with
    | none => cases hb
    | some hh =>
      rename_i hv hv'
      simp only at hb
      cases h1 : sliceBound? m (limit len cap) with
      | none => rw [h1] at hb; cases hb
      | some mm =>
        rw [h1] at hb
        simp only at hb
        cases h2 : sliceBound? hv mm with
        | none => rw [h2] at hb; cases hb
        | some hn =>
          rw [h2] at hb
          simp only at hb
          cases h3 : low? lo hn with
          | none => rw [h3] at hb; cases hb
          | some ll =>
            rw [h3] at hb
            simp only at hb
            cases h4 : Nat.blt mm capOpen with
            | false => rw [h4] at hb; cases hb
            | true =>
              rw [h4] at hb
              simp only [cond_true, Option.some.injEq, Prod.mk.injEq] at hb
              obtain ⟨rfl, rfl, rfl⟩ := hb
              obtain ⟨r1, l1⟩ := sliceBound_sound (tb := tb) (if isSlice then .slice3Acap else .slice3Alen) h1 hm hlim w
              obtain ⟨r2, l2⟩ := sliceBound_sound (tb := tb) .slice3B h2 hh (Nat.le_refl mm) w
              obtain ⟨r3, l3⟩ := low_sound (tb := tb) .slice3C (fun l => pure (l, hn, mm)) h3 hl w
              refine ⟨mm, ?_, l3, l2, by omega, .inl ⟨by have := lt_of_blt h4; omega, rfl⟩⟩
              simp only [Instr.sliceBounds, Sem.run_bind, r1, r2, Result.andThen_ok, Option.isSome_some, if_true]
              exact r3
  | none =>
    simp only at hb
    cases hh with
    | none =>
      simp only at hb
      cases h3 : low? lo len with
      | none => rw [h3] at hb; cases hb
      | some ll =>
        rw [h3] at hb
        simp only [Option.some.injEq, Prod.mk.injEq] at hb
        obtain ⟨rfl, rfl, rfl⟩ := hb
        obtain ⟨r3, l3⟩ := low_sound (tb := tb) .sliceB (fun l => pure (l, len, cap')) h3 hl w
        refine ⟨cap', ?_, l3, hlen, Nat.le_refl _, ?_⟩
        · simp only [Instr.sliceBounds, Sem.run_bind, Sem.run_pure, Result.andThen_ok, Option.isSome_none, Bool.false_eq_true, if_false]
          exact r3
        · cases h4 : Nat.blt cap capOpen with
          | true => have := lt_of_blt h4; have := hcap this; refine .inl ⟨?_, ?_⟩ <;> simp only [cond_true] <;> omega
          | false => have := ge_of_blt h4; refine .inr ⟨this, by simp, rfl, Nat.le_refl _⟩
    | some hh =>
      rename_i hv hv'
      simp only at hb
      cases h2 : sliceBound? hv (limit len cap) with
      | none => rw [h2] at hb; cases hb
      | some hn =>
        rw [h2] at hb
        simp only at hb
        cases h3 : low? lo hn with
        | none => rw [h3] at hb; cases hb
        | some ll =>
          rw [h3] at hb
          simp only [Option.some.injEq, Prod.mk.injEq] at hb
          obtain ⟨rfl, rfl, rfl⟩ := hb
          obtain ⟨r2, l2⟩ := sliceBound_sound (tb := tb) (if isSlice then .sliceAcap else .sliceAlen) h2 hh hlim w
          obtain ⟨r3, l3⟩ := low_sound (tb := tb) .sliceB (fun l => pure (l, hn, cap')) h3 hl w
          refine ⟨cap', ?_, l3, by omega, Nat.le_refl _, ?_⟩
          · simp only [Instr.sliceBounds, Sem.run_bind, Sem.run_pure, r2, Result.andThen_ok, Option.isSome_none, Bool.false_eq_true, if_false]
            exact r3
          · cases h4 : Nat.blt cap capOpen with
            | true => have := lt_of_blt h4; have := hcap this; refine .inl ⟨?_, ?_⟩ <;> simp only [cond_true] <;> omega
            | false =>
              have := ge_of_blt h4
              refine .inr ⟨this, by simp, rfl, ?_⟩
              have hx : limit len cap = len := by unfold limit; rw [h4]; rfl
              omega

end
end Go.Ab
