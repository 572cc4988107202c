import Derived.Test.YtjjlhemenokdhaaGreatAbPure
namespace Go.Ab
section
variable {tb : Tab} {μ : Mu} {w : World}

theorem slice_sound (ht : TabOK tb) {t : TypeId} {x x' v : Value} {lo hi mx lo' hi' mx' : Option Value} (h : slice? tb t x lo hi mx = some v) (hx : VR μ x x')
    (hl : OR μ lo lo') (hh : OR μ hi hi') (hm : OR μ mx mx') (w : World) :
    ∃ v', (Instr.sliceAt t x' lo' hi' mx').run tb.P w = .ok v' w ∧ VR μ v v' := by
  unfold slice? at h
  cases hu : under tb t with
  | none => rw [hu] at h; cases x <;> cases h
  | some d =>
    rw [hu] at h
    have hr := run_under ht hu w
    cases d with
    | string =>
      cases x <;> first | (cases h; done) | skip
      rename_i s
      rw [hx.string_eq]
      simp only at h
      cases hm with
      | some hm => cases h
      | none =>
        simp only at h
        cases hb : bounds? s.size s.size lo hi none with
        | none => rw [hb] at h; cases h
        | some q =>
          obtain ⟨l, hh', c⟩ := q
          rw [hb] at h; cases h
          obtain ⟨m', r, h1, h2, h3, _⟩ := bounds_sound (tb := tb) (isSlice := false) hb hl hh .none (Nat.le_refl _) (fun _ => rfl) w
          exact ⟨_, by simp [Instr.sliceAt, hr, Instr.slice, r], .string _⟩
    | slice elem =>
      cases x <;> first | (cases h; done) | skip
      rename_i a len cap
      simp only at h
      cases hcap : Nat.blt cap capOpen with
      | false => rw [hcap] at h; cases h
      | true =>
      rw [hcap] at h
      have hcap := lt_of_blt hcap
      simp only [cond_true] at h
      cases hb : bounds? len cap lo hi mx with
      | none => rw [hb] at h; simp at h
      | some q =>
        obtain ⟨l, h', c⟩ := q
        rw [hb] at h
        cases hs : sizeOf? tb elem with
        | none => rw [hs] at h; simp at h
        | some size =>
          rw [hs] at h
          simp only [Option.some.injEq] at h
          have hrs := run_size ht hs w
          have key : ∀ (a' : Option Addr), len ≤ cap →
              ∃ m', (Instr.sliceAt t (.slice a' len cap) lo' hi' mx').run tb.P w = .ok (.slice (if m' = l then a' else a'.map (·.add (l * size))) (h' - l) (m' - l)) w ∧ l ≤ h' ∧ h' ≤ m' ∧ m' ≤ cap ∧ c < capOpen ∧ c = m' - l := by
            intro a' h1
            obtain ⟨m', r, h1, h2, h3, h4⟩ := bounds_sound (tb := tb) (isSlice := true) hb hl hh hm h1 (fun _ => rfl) w
            refine ⟨m', by simp [Instr.sliceAt, hr, Instr.slice, r, hrs], h1, h2, h3, ?_⟩
            rcases h4 with ⟨h4, h5⟩ | ⟨h4, _⟩
            · exact ⟨h4, h5⟩
            · omega
          have hz : ∀ (m' : Nat), l ≤ h' → h' ≤ m' → c = m' - l → (Nat.beq c 0 = true ↔ m' = l) := by
            intro m' h1 h2 h3
            constructor
            · intro he; have := eq_of_nbeq he; omega
            · intro he; exact nbeq_eq (by omega)
          cases hx with
          | slcNil hc hn =>
            obtain ⟨m', r, h1, h2, h3, h4, h5⟩ := key none hn
            refine ⟨_, r, ?_⟩
            subst h
            have e1 : (bif Nat.beq c 0 then (none : Option Addr) else Option.map (fun a : Addr => a.add (l * size)) none) = none := by cases Nat.beq c 0 <;> rfl
            have e2 : (if m' = l then (none : Option Addr) else Option.map (fun a : Addr => a.add (l * size)) none) = none := by split <;> rfl
            rw [e1, e2, ← h5]
            exact .slcNil h4 (by omega)
          | @slc B o _ _ r hB hc hn =>
            obtain ⟨m', r, h1, h2, h3, h4, h5⟩ := key (some _) hn
            refine ⟨_, r, ?_⟩
            subst h
            rw [← h5]
            by_cases hm' : m' = l
            · rw [(hz m' h1 h2 h5).2 hm', if_pos hm']
              exact .slc hB h4 (by omega)
            · have hb' : Nat.beq c 0 = false := by
                cases he : Nat.beq c 0 with
                | false => rfl
                | true => exact absurd ((hz m' h1 h2 h5).1 he) hm'
              rw [hb', if_neg hm']
              simp only [cond_false, Option.map_some, Addr.add_mk, Nat.add_assoc]
              exact .slc hB h4 (by omega)
          | slcOpen hB hc hn => exact absurd hcap (Nat.lt_irrefl _)
          | slcTail _ => exact absurd hcap (Nat.lt_irrefl _)
          | slcZero =>
            obtain ⟨m', r, h1, h2, h3, h4, h5⟩ := key (some _) (Nat.le_refl _)
            refine ⟨_, r, ?_⟩
            subst h
            have hm0 : m' = 0 := by omega
            have hl0 : l = 0 := by omega
            have hc0 : c = 0 := by omega
            have hh0 : h' = 0 := by omega
            subst hm0 hl0 hc0 hh0
            exact .slcZero
    | array n elem =>
      cases x <;> first | (cases h; done) | skip
      rename_i a
      cases a with
      | none => cases h
      | some a =>
      simp only at h
      cases hb : bounds? n n lo hi mx with
      | none => rw [hb] at h; simp at h
      | some q =>
        obtain ⟨l, h', c⟩ := q
        rw [hb] at h
        cases hs : sizeOf? tb elem with
        | none => rw [hs] at h; simp at h
        | some size =>
          rw [hs] at h
          simp only at h
          cases hn : Nat.blt n capOpen with
          | false => rw [hn] at h; cases h
          | true =>
          rw [hn] at h
          have hn := lt_of_blt hn
          simp only [cond_true, Option.some.injEq] at h
          have hrs := run_size ht hs w
          obtain ⟨m', r, h1, h2, h3, h4⟩ := bounds_sound (tb := tb) (isSlice := false) hb hl hh hm (Nat.le_refl n) (fun _ => rfl) w
          rcases h4 with ⟨h4, h5⟩ | ⟨h4, h5, h6, h7⟩
          · cases hx with
            | ptr hB =>
              refine ⟨_, by simp [Instr.sliceAt, hr, Instr.sureAddr, r, hrs]; rfl, ?_⟩
              subst h
              rw [← h5]
              by_cases hm' : m' = l
              · rw [nbeq_eq (show c = 0 by omega), if_pos hm']
                exact .slc hB h4 (by omega)
              · rw [nbeq_ne (show c ≠ 0 by omega), if_neg hm']
                simp only [cond_false, Addr.add_mk, Nat.add_assoc]
                exact .slc hB h4 (by omega)
          · omega
    | _ => cases x <;> cases h

theorem not_top {v : Value} (h : closed 20 v = true) : isTop v = false := by
  cases v <;> first | rfl | (simp [closed] at h)

theorem VR.size {v v' : Value} (h : VR μ v v') (ht : isTop v = false) : v.cells.size = v'.cells.size := by
  have := (h.cells ht).length
  simpa using this

theorem all2_zipIdx {l l' : List Value} (h : All2 (VR μ) l l') : All2 (fun (p q : Value × Nat) => VR μ p.1 q.1 ∧ p.2 = q.2) l.zipIdx l'.zipIdx := by
  refine .of_get (by simpa using h.length) fun i a b ha hb => ?_
  rw [List.getElem?_zipIdx] at ha hb
  cases hx : l[i]? with
  | none => rw [hx] at ha; simp at ha
  | some x =>
    cases hy : l'[i]? with
    | none => rw [hy] at hb; simp at hb
    | some y =>
      rw [hx] at ha; rw [hy] at hb
      simp only [Option.map_some, Option.some.injEq] at ha hb
      subst ha; subst hb
      exact ⟨h.rev_get i hx hy, rfl⟩

/-- Rows of cells. -/
structure AR (μ : Mu) (x x' : Array Value) : Prop where
  size : x.size = x'.size
  at_ : ∀ (i : Nat) (a b : Value), x[i]? = some a → x'[i]? = some b → VR μ a b

theorem AR.of {x x' : Array Value} (h : All2 (VR μ) x.toList x'.toList) : AR μ x x' :=
  ⟨by simpa using h.length, fun i a b ha hb => h.rev_get i (by simpa using ha) (by simpa using hb)⟩
theorem AR.all2 {x x' : Array Value} (h : AR μ x x') : All2 (VR μ) x.toList x'.toList := all2_of h.size h.at_

theorem AR.set {x x' : Array Value} {v v' : Value} (h : AR μ x x') (hv : VR μ v v') (i : Nat) : AR μ (x.setIfInBounds i v) (x'.setIfInBounds i v') := by
  refine ⟨by simp [h.size], fun j a b ha hb => ?_⟩
  rw [Array.getElem?_setIfInBounds] at ha hb
  by_cases e : i = j
  · subst e
    simp only [if_true] at ha hb
    split at ha
    · split at hb
      · cases ha; cases hb; exact hv
      · cases hb
    · cases ha
  · rw [if_neg e] at ha hb
    exact h.at_ j a b ha hb

theorem AR.putAll {l l' : List (Value × Nat)} (off : Nat) (h : All2 (fun (p q : Value × Nat) => VR μ p.1 q.1 ∧ p.2 = q.2) l l') : ∀ {x x' : Array Value}, AR μ x x' →
    AR μ (l.foldl (putAt off) x) (l'.foldl (putAt off) x') := by
  induction h with
  | nil => exact fun h => h
  | cons hp _ ih =>
    intro x x' hx
    simp only [List.foldl_cons]
    apply ih
    unfold putAt
    rw [hp.2]
    exact hx.set hp.1 _

theorem fill_sound {place : Nat → Option (Nat × Nat)} : ∀ {ps ps' : List (Nat × Value)} {x x' y : Array Value}, fillAgg place x ps = some y →
    All2 (fun (p q : Nat × Value) => p.1 = q.1 ∧ VR μ p.2 q.2) ps ps' → AR μ x x' → ∃ y', Instr.fill place x' ps' = some y' ∧ AR μ y y' := by
  intro ps
  induction ps with
  | nil =>
    intro ps' x x' y h hp hx
    cases hp
    simp only [fillAgg, Option.some.injEq] at h
    subst h
    exact ⟨x', rfl, hx⟩
  | cons p rest ih =>
    intro ps' x x' y h hp hx
    obtain ⟨i, v⟩ := p
    cases hp with
    | @cons _ q _ rest' hq hrest =>
      obtain ⟨i', v'⟩ := q
      obtain ⟨rfl, hv⟩ := hq
      simp only [fillAgg] at h
      cases hpl : place i with
      | none => rw [hpl] at h; cases h
      | some os =>
        obtain ⟨off, size⟩ := os
        rw [hpl] at h
        simp only at h
        cases h1 : isTop v with
        | true => rw [h1] at h; cases h
        | false =>
        cases h2 : Nat.beq v.cells.size size with
        | false => rw [h1, h2] at h; cases h
        | true =>
        cases h3 : Nat.blt x.size (off + v.cells.size) with
        | true => rw [h1, h2, h3] at h; cases h
        | false =>
          rw [h1, h2, h3] at h
          simp only [Bool.not_true, Bool.or_self, cond_false] at h
          have hsz : v.cells.size = v'.cells.size := hv.size h1
          have e2 := eq_of_nbeq h2
          have e3 := ge_of_blt h3
          obtain ⟨y', hy, hr⟩ := ih h hrest (AR.putAll off (all2_zipIdx (hv.cells h1)) hx)
          refine ⟨y', ?_, hr⟩
          simp only [Instr.fill, hpl]
          have hc : (decide ((v'.cells).size ≠ size) || decide (off + v'.cells.size > x'.size)) = false := by
            have := hx.size
            simp only [Bool.or_eq_false_iff, decide_eq_false_iff_not, Decidable.not_not, gt_iff_lt, Nat.not_lt]
            omega
          rw [hc]
          simp only [Bool.false_eq_true, if_false]
          rw [← hy]
          congr 1
          rw [← Array.foldl_toList, Array.toList_zipIdx]
          rfl

end
end Go.Ab
