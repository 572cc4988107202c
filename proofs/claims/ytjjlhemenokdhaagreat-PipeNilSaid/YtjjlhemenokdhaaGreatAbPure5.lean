import Derived.Test.YtjjlhemenokdhaaGreatAbPure4
namespace Go.Ab
section
variable {tb : Tab} {μ : Mu} {w : World}

theorem and_dec {p q : Prop} [Decidable p] [Decidable q] (h : (decide p && decide q) = true) : p ∧ q := by simpa using h

theorem bif_some {α : Type} {c : Bool} {x : Option α} {v : α} (h : (bif c then x else none) = some v) : c = true ∧ x = some v := by
  cases c with
  | false => cases h
  | true => exact ⟨rfl, h⟩

theorem map_some {α β : Type} {x : Option α} {f : α → β} {v : β} (h : x.map f = some v) : ∃ a, x = some a ∧ f a = v := by
  cases x with
  | none => cases h
  | some a => exact ⟨a, rfl, by simpa using h⟩

theorem convert_sound (ht : TabOK tb) {ρ ρ' : Operand → Value} (hρ : ∀ x, VR μ (ρ x) (ρ' x)) {src dst' : TypeId} {x : Operand} {dst : Option Tmp} {ty : TypeId} {pos : String} {after : Array Edge} {guard : Option (Nat × Bool)} {v : Value}
    (h : apure tb ρ ⟨dst, .convert src dst' x, ty, pos, after, guard⟩ = some v) (w : World) :
    ∃ v', (convert src dst' (ρ' x)).run tb.P w = .ok v' w ∧ VR μ v v' := by
  have hx := hρ x
  simp only [apure] at h
  generalize ρ x = a at h hx
  generalize ρ' x = a' at hx ⊢
  split at h
  · rename_i d k k' n hs hd
    cases h
    rw [hx.int_eq]
    refine ⟨_, ?_, .int _ _⟩
    simp only [convert, Sem.run_bind, run_under ht hs, run_under ht hd, Result.andThen_ok]
    cases d <;> rfl
  · rename_i d s hs hd
    cases h
    rw [hx.string_eq]
    refine ⟨_, ?_, .string _⟩
    simp only [convert, Sem.run_bind, run_under ht hs, run_under ht hd, Result.andThen_ok]
    cases d <;> rfl
  · cases h

theorem index_sound (ht : TabOK tb) {ρ ρ' : Operand → Value} (hρ : ∀ x, VR μ (ρ x) (ρ' x)) {t : TypeId} {x ix : Operand} {dst : Option Tmp} {ty : TypeId} {pos : String} {after : Array Edge} {guard : Option (Nat × Bool)} {v : Value}
    (h : apure tb ρ ⟨dst, .index t x ix, ty, pos, after, guard⟩ = some v) (w : World) :
    ∃ v', (Instr.index t (ρ' x) (ρ' ix)).run tb.P w = .ok v' w ∧ VR μ v v' := by
  have hx := hρ x
  have hi := hρ ix
  simp only [apure] at h
  generalize ρ x = a at h hx
  generalize ρ' x = a' at hx ⊢
  generalize ρ ix = b at h hi
  generalize ρ' ix = b' at hi ⊢
  split at h
  · rename_i len elem cs k i hu
    obtain ⟨hc, h⟩ := bif_some h
    have hc := and_dec hc
    cases hs : sizeOf? tb elem with
    | none => rw [hs] at h; cases h
    | some n =>
      rw [hs] at h
      simp only at h
      rw [hi.int_eq]
      cases hx with
      | agg hsz hr =>
        obtain ⟨v', h1, h2⟩ := part_sound ht h (all2_of hsz hr) w
        refine ⟨v', ?_, h2⟩
        simp [Instr.index, asIntOf, run_under ht hu, hc, run_size ht hs, h1]
  · rename_i s k i hu
    obtain ⟨hc, h⟩ := bif_some h
    have hc : 0 ≤ i := by simpa using hc
    rw [hi.int_eq, hx.string_eq]
    cases hb : s[i.toNat]? with
    | none => rw [hb] at h; cases h
    | some b =>
      rw [hb] at h
      cases h
      refine ⟨_, ?_, .int _ _⟩
      simp [Instr.index, asIntOf, run_under ht hu, hc, hb]
  · cases h

theorem indexAddr_sound (ht : TabOK tb) {ρ ρ' : Operand → Value} (hρ : ∀ x, VR μ (ρ x) (ρ' x)) {t : TypeId} {x ix : Operand} {dst : Option Tmp} {ty : TypeId} {pos : String} {after : Array Edge} {guard : Option (Nat × Bool)} {v : Value}
    (h : apure tb ρ ⟨dst, .indexAddr t x ix, ty, pos, after, guard⟩ = some v) (w : World) :
    ∃ v', (Instr.indexAt t (ρ' x) (ρ' ix)).run tb.P w = .ok v' w ∧ VR μ v v' := by
  have hx := hρ x
  have hi := hρ ix
  simp only [apure] at h
  generalize ρ x = a at h hx
  generalize ρ' x = a' at hx ⊢
  generalize ρ ix = b at h hi
  generalize ρ' ix = b' at hi ⊢
  split at h
  · rename_i len elem a k i hu
    obtain ⟨hc, h⟩ := bif_some h
    have hc := and_dec hc
    obtain ⟨n, hs, rfl⟩ := map_some h
    rw [hi.int_eq]
    obtain ⟨a', rfl, hr⟩ := hx.ptr_add (i.toNat * n)
    refine ⟨_, ?_, hr⟩
    simp [Instr.indexAt, asIntOf, run_under ht hu, Instr.sureAddr, hc, run_size ht hs]
  · rename_i elem a len c k i hu
    obtain ⟨hc, h⟩ := bif_some h
    have hc := and_dec hc
    obtain ⟨n, hs, rfl⟩ := map_some h
    rw [hi.int_eq]
    have hr : ∃ aa' cc, a' = .slice (some aa') len cc ∧ VR μ (.pointer (some (a.add (i.toNat * n)))) (.pointer (some (aa'.add (i.toNat * n)))) := by
      cases hx with
      | slc hB _ _ => exact ⟨_, _, rfl, by rw [Addr.add_mk, Addr.add_mk, Nat.add_assoc]; exact .ptr hB⟩
      | slcOpen hB _ _ => exact ⟨_, _, rfl, by rw [Addr.add_mk, Addr.add_mk, Nat.add_assoc]; exact .ptr hB⟩
      | slcTail _ => exfalso; have := hc; omega
      | slcZero => exfalso; have := hc; omega
    obtain ⟨aa', cc, rfl, hr⟩ := hr
    refine ⟨_, ?_, hr⟩
    simp [Instr.indexAt, asIntOf, run_under ht hu, hc, run_size ht hs]
  · cases h

theorem fieldAddr_sound (ht : TabOK tb) {ρ ρ' : Operand → Value} (hρ : ∀ x, VR μ (ρ x) (ρ' x)) {s : TypeId} {x : Operand} {f : Nat} {dst : Option Tmp} {ty : TypeId} {pos : String} {after : Array Edge} {guard : Option (Nat × Bool)} {v : Value}
    (h : apure tb ρ ⟨dst, .fieldAddr s x f, ty, pos, after, guard⟩ = some v) (w : World) :
    ∃ v', (Instr.fieldAt s (ρ' x) f).run tb.P w = .ok v' w ∧ VR μ v v' := by
  have hx := hρ x
  simp only [apure] at h
  generalize ρ x = a at h hx
  generalize ρ' x = a' at hx ⊢
  split at h
  · rename_i fd a hf
    unfold field? at hf
    split at hf
    · rename_i fs hu
      cases hs : sizeOf? tb fd.type with
      | none => rw [hs] at h; cases h
      | some n =>
        rw [hs] at h
        simp only at h
        cases h0 : Nat.beq n 0 with
        | true => rw [h0] at h; cases h
        | false =>
          rw [h0] at h
          cases h
          have hn : n ≠ 0 := by intro e; subst e; cases h0
          obtain ⟨aa', rfl, hr⟩ := hx.ptr_add fd.offset
          refine ⟨_, ?_, hr⟩
          simp [Instr.fieldAt, run_under ht hu, hf, Instr.sureAddr, fieldPlace, run_size ht hs, hn]
    · cases hf
  · cases h

theorem field_sound (ht : TabOK tb) {ρ ρ' : Operand → Value} (hρ : ∀ x, VR μ (ρ x) (ρ' x)) {s : TypeId} {x : Operand} {f : Nat} {dst : Option Tmp} {ty : TypeId} {pos : String} {after : Array Edge} {guard : Option (Nat × Bool)} {v : Value}
    (h : apure tb ρ ⟨dst, .field s x f, ty, pos, after, guard⟩ = some v) (w : World) :
    ∃ v', (Instr.field s (ρ' x) f).run tb.P w = .ok v' w ∧ VR μ v v' := by
  have hx := hρ x
  simp only [apure] at h
  generalize ρ x = a at h hx
  generalize ρ' x = a' at hx ⊢
  split at h
  · rename_i fd cs hf
    unfold field? at hf
    split at hf
    · rename_i fs hu
      cases hx with
      | agg hsz hr =>
        obtain ⟨v', h1, h2⟩ := part_sound ht h (all2_of hsz hr) w
        refine ⟨v', ?_, h2⟩
        simp [Instr.field, run_under ht hu, hf, asAgg, h1]
    · cases hf
  · cases h

theorem typeAssert_sound (ht : TabOK tb) {ρ ρ' : Operand → Value} (hρ : ∀ x, VR μ (ρ x) (ρ' x)) {x : Operand} {xt at_ : TypeId} {ok : Bool} {dst : Option Tmp} {ty : TypeId} {pos : String} {after : Array Edge} {guard : Option (Nat × Bool)} {v : Value}
    (h : apure tb ρ ⟨dst, .typeAssert x xt at_ ok, ty, pos, after, guard⟩ = some v) (w : World) :
    ∃ v', (Instr.typeAssert (ρ' x) xt at_ ok).run tb.P w = .ok v' w ∧ VR μ v v' := by
  have hx := hρ x
  simp only [apure] at h
  generalize ρ x = a at h hx
  generalize ρ' x = a' at hx ⊢
  cases hu : under tb at_ with
  | none => rw [hu] at h; cases h
  | some d =>
    have hr := run_under ht hu
    cases a <;> first | (rw [hu] at h; cases d <;> cases h; done) | skip
    · -- an interface value
      rename_i t u
      cases hx with
      | iface hv =>
        rename_i u'
        rw [hu] at h
        have h' : (bif Nat.beq t at_ then some (bif ok then Value.tuple #[u, .bool true] else u) else bif ok then (zero? tb at_).map fun z => .tuple #[z, .bool false] else none) = some v := by
          cases d <;> first | exact h | cases h
        have hne : ∀ ms, d ≠ .interface ms := by intro ms e; subst e; cases h
        cases hb : Nat.beq t at_ with
        | true =>
          rw [hb] at h'
          have he := eq_of_nbeq hb
          subst he
          cases ok with
          | true =>
            cases h'
            refine ⟨.tuple #[u', .bool true], ?_, VR.tuple2 (.cons hv (.cons (.bool _) .nil))⟩
            simp only [Instr.typeAssert, Sem.run_bind, hr, Result.andThen_ok]
            cases d <;> first | (exact absurd rfl (hne _)) | simp
          | false =>
            cases h'
            refine ⟨u', ?_, hv⟩
            simp only [Instr.typeAssert, Sem.run_bind, hr, Result.andThen_ok]
            cases d <;> first | (exact absurd rfl (hne _)) | simp
        | false =>
          rw [hb] at h'
          have hne' : t ≠ at_ := by intro e; subst e; rw [Nat.beq_refl] at hb; cases hb
          cases ok with
          | true =>
            obtain ⟨z, hz, rfl⟩ := map_some h'
            refine ⟨.tuple #[z, .bool false], ?_, VR.tuple2 (.cons (zero_self ht hz) (.cons (.bool _) .nil))⟩
            simp only [Instr.typeAssert, Sem.run_bind, hr, Result.andThen_ok]
            cases d <;> first | (exact absurd rfl (hne _)) | simp [hne', run_zero ht hz]
          | false => cases h'
    · -- nil
      cases hx
      rw [hu] at h
      have h' : (bif ok then (zero? tb at_).map fun z => Value.tuple #[z, .bool false] else none) = some v := by
        cases d <;> first | exact h | cases h
      have hne : ∀ ms, d ≠ .interface ms := by intro ms e; subst e; cases h
      cases ok with
      | true =>
        obtain ⟨z, hz, rfl⟩ := map_some h'
        refine ⟨.tuple #[z, .bool false], ?_, VR.tuple2 (.cons (zero_self ht hz) (.cons (.bool _) .nil))⟩
        simp only [Instr.typeAssert, Sem.run_bind, hr, Result.andThen_ok]
        cases d <;> first | (exact absurd rfl (hne _)) | simp [run_zero ht hz]
      | false => cases h'

theorem one_arg {ρ : Operand → Value} {a : Array Operand} {x : Operand} (h : a.toList = [x]) : a.map ρ = #[ρ x] := by
  apply Array.ext'
  rw [Array.toList_map, h]; rfl

theorem one_arg' {α : Type} {a : Array α} {x : α} (h : a.toList = [x]) : a = #[x] := Array.ext' (by rw [h])

theorem call_sound (ht : TabOK tb) {ρ ρ' : Operand → Value} (hρ : ∀ x, VR μ (ρ x) (ρ' x)) {c : Call} {dst : Option Tmp} {ty : TypeId} {pos : String} {after : Array Edge} {guard : Option (Nat × Bool)} {v : Value}
    (h : apure tb ρ ⟨dst, .call c, ty, pos, after, guard⟩ = some v) (w : World) :
    ∃ v', (execOp ρ' ⟨dst, .call c, ty, pos, after, guard⟩).run tb.P w = .ok (.value v') w ∧ VR μ v v' := by
  obtain ⟨callee, args, argTypes⟩ := c
  simp only [apure] at h
  cases callee with
  | value f => cases h
  | invoke r n => cases h
  | builtin b =>
    have hgo : ∀ {v' : Value}, (do pure (Next.value (← (match b with
        | .len => Builtin.len_ argTypes ty (args.map ρ')
        | .cap => Builtin.cap_ argTypes ty (args.map ρ')
        | .min => Builtin.min_ argTypes ty (args.map ρ')
        | .max => Builtin.max_ argTypes ty (args.map ρ')
        | .unsafeSliceData => Builtin.unsafeSliceData_ argTypes ty (args.map ρ')
        | _ => stuck ""))) : Sem Next).run tb.P w = .ok (.value v') w → (b = .len ∨ b = .cap ∨ b = .min ∨ b = .max ∨ b = .unsafeSliceData) →
        (execOp ρ' ⟨dst, .call ⟨.builtin b, args, argTypes⟩, ty, pos, after, guard⟩).run tb.P w = .ok (.value v') w := by
      intro v' h1 h2
      rcases h2 with rfl | rfl | rfl | rfl | rfl <;> exact h1
    cases b <;> first | (cases h; done) | skip
    · -- cap
      simp only at h
      split at h
      · rename_i x t ha hat
        split at h
        · rename_i e a n l hu hx
          obtain ⟨hc, h⟩ := bif_some h
          cases h
          have hv := hρ x
          rw [hx] at hv
          have hlt := lt_of_blt hc
          refine ⟨_, hgo (run_v ?_) (by simp), .int _ _⟩
          rw [one_arg ha, one_arg' hat]
          generalize ρ' x = u at hv ⊢
          cases hv with
          | slcNil _ _ => simp [Builtin.cap_, run_under ht hu, goInt]
          | slc _ _ _ => simp [Builtin.cap_, run_under ht hu, goInt]
          | slcOpen _ _ _ => exact absurd hlt (Nat.lt_irrefl _)
          | slcTail _ => exact absurd hlt (Nat.lt_irrefl _)
          | slcZero => simp [Builtin.cap_, run_under ht hu, goInt]
        · cases h
      · cases h
    · -- len
      simp only at h
      split at h
      · rename_i x t ha hat
        split at h
        · rename_i s hu hx
          cases h
          have hv := hρ x
          rw [hx] at hv
          refine ⟨_, hgo (run_v ?_) (by simp), .int _ _⟩
          rw [one_arg ha, one_arg' hat, hv.string_eq]
          simp [Builtin.len_, run_under ht hu, goInt]
        · rename_i e a n l hu hx
          cases h
          have hv := hρ x
          rw [hx] at hv
          refine ⟨_, hgo (run_v ?_) (by simp), .int _ _⟩
          rw [one_arg ha, one_arg' hat]
          generalize ρ' x = u at hv ⊢
          cases hv <;> simp [Builtin.len_, run_under ht hu, goInt]
        · rename_i n e u hu
          cases h
          refine ⟨_, hgo (run_v ?_) (by simp), .int _ _⟩
          rw [one_arg ha, one_arg' hat]
          simp [Builtin.len_, run_under ht hu, goInt]
        · rename_i k e hu hx
          cases h
          have hv := hρ x
          rw [hx] at hv
          refine ⟨_, hgo (run_v ?_) (by simp), .int _ _⟩
          rw [one_arg ha, one_arg' hat]
          generalize ρ' x = u at hv ⊢
          cases hv
          simp [Builtin.len_, run_under ht hu, goInt]
        · cases h
      · cases h
    · -- max
      obtain ⟨hc, h⟩ := bif_some h
      have he : args.map ρ' = args.map ρ := by
        apply Array.ext'
        rw [Array.toList_map, Array.toList_map]
        exact args_closed hρ hc
      obtain ⟨h1, h2⟩ := pureVal_sound (μ := μ) h w
      refine ⟨v, hgo (run_v ?_) (by simp), h2⟩
      rw [he]; exact h1
    · -- min
      obtain ⟨hc, h⟩ := bif_some h
      have he : args.map ρ' = args.map ρ := by
        apply Array.ext'
        rw [Array.toList_map, Array.toList_map]
        exact args_closed hρ hc
      obtain ⟨h1, h2⟩ := pureVal_sound (μ := μ) h w
      refine ⟨v, hgo (run_v ?_) (by simp), h2⟩
      rw [he]; exact h1
    · -- unsafe.SliceData
      simp only at h
      split at h
      · rename_i x ha
        split at h
        · rename_i a n c hx
          cases h
          have hv := hρ x
          rw [hx] at hv
          have hr : ∃ aa' cc, ρ' x = .slice (some aa') (n + 1) cc ∧ cc ≠ 0 ∧ VR μ (.pointer (some a)) (.pointer (some aa')) := by
            generalize ρ' x = u at hv
            cases hv with
            | slc hB _ hn => exact ⟨_, _, rfl, by omega, .ptr hB⟩
            | slcOpen hB _ hn => exact ⟨_, _, rfl, by omega, .ptr hB⟩
          obtain ⟨aa', cc, he, hcc, hr⟩ := hr
          refine ⟨_, hgo (run_v ?_) (by simp), hr⟩
          rw [one_arg ha, he]
          have hu : Builtin.unsafeSliceData_ argTypes ty #[.slice (some aa') (n + 1) cc] = (if cc ≠ 0 then pure (.pointer (some aa')) else (do
              if (← viewAt aa'.block).isSome then pure (.pointer (some aa')) else pure (.pointer (some ⟨← newObj (.view aa' (← elemOf ty)), 0, none⟩)))) := rfl
          rw [hu, if_pos hcc]
          rfl
        · rename_i n c hx
          cases h
          have hv := hρ x
          rw [hx] at hv
          refine ⟨.pointer none, hgo (run_v ?_) (by simp), .ptrNil⟩
          rw [one_arg ha]
          generalize ρ' x = u at hv ⊢
          cases hv
          rfl
        · cases h
      · cases h

/-- Operations that leave memory alone and do not look at it: the executor tells what they tell. -/
theorem apure_sound (ht : TabOK tb) {ρ ρ' : Operand → Value} (hρ : ∀ x, VR μ (ρ x) (ρ' x)) {o : Oper} {v : Value} (h : apure tb ρ o = some v) (w : World) :
    ∃ v', (execOp ρ' o).run tb.P w = .ok (.value v') w ∧ VR μ v v' := by
  obtain ⟨dst, op, ty, pos, after, guard⟩ := o
  cases op with
  | move x => simp only [apure, Option.some.injEq] at h; subst h; exact ⟨_, rfl, hρ x⟩
  | assign x => simp only [apure, Option.some.injEq] at h; subst h; exact ⟨_, rfl, hρ x⟩
  | pick c a b =>
    simp only [apure] at h
    split at h
    · rename_i t hc
      cases h
      have hv := hρ c
      rw [hc] at hv
      have hc' := hv.bool_eq
      cases t with
      | true => exact ⟨_, by simp [execOp, asBool, hc'], hρ a⟩
      | false => exact ⟨_, by simp [execOp, asBool, hc'], hρ b⟩
    · cases h
  | binOp op t x y yt =>
    obtain ⟨h1, h2⟩ := binOp_sound ht hρ h w
    exact ⟨v, run_v h1, h2⟩
  | unOp op t x =>
    simp only [apure] at h
    obtain ⟨hc, h⟩ := bif_some h
    obtain ⟨h1, h2⟩ := pureVal_sound (μ := μ) h w
    refine ⟨v, run_v ?_, h2⟩
    rw [closed_eq 1 _ hc _ (hρ x)]
    exact h1
  | convert src d x => obtain ⟨v', h1, h2⟩ := convert_sound ht hρ h w; exact ⟨v', run_v h1, h2⟩
  | makeInterface t x =>
    simp only [apure] at h
    split at h
    · cases h
    · rename_i d hne hu
      cases h
      refine ⟨_, run_v ?_, .iface (hρ x)⟩
      simp only [Instr.makeInterface, Sem.run_bind, run_under ht hu, Result.andThen_ok]
      cases d <;> first | rfl | exact (hne _ rfl).elim
    · cases h
  | makeFunc fn first cap =>
    simp only [apure] at h
    cases fn with
    | yield l => cases h
    | _ =>
      cases h
      exact ⟨_, run_v rfl, VR.func2 (.same (by simp)) (by rw [Array.toList_map, Array.toList_map]; exact all2_args hρ _) (by rw [Array.toList_map, Array.toList_map]; exact all2_args hρ _)⟩
  | build t parts => obtain ⟨v', h1, h2⟩ := build_sound ht hρ h w; exact ⟨v', run_v h1, h2⟩
  | nilCheck x => exact nilCheck_sound ht hρ h w
  | slice t x lo hi mx =>
    simp only [apure] at h
    obtain ⟨v', h1, h2⟩ := slice_sound ht h (hρ x) (OR.map hρ lo) (OR.map hρ hi) (OR.map hρ mx) w
    exact ⟨v', run_v h1, h2⟩
  | fieldAddr s x f => obtain ⟨v', h1, h2⟩ := fieldAddr_sound ht hρ h w; exact ⟨v', run_v h1, h2⟩
  | field s x f => obtain ⟨v', h1, h2⟩ := field_sound ht hρ h w; exact ⟨v', run_v h1, h2⟩
  | indexAddr t x ix => obtain ⟨v', h1, h2⟩ := indexAddr_sound ht hρ h w; exact ⟨v', run_v h1, h2⟩
  | index t x ix => obtain ⟨v', h1, h2⟩ := index_sound ht hρ h w; exact ⟨v', run_v h1, h2⟩
  | extract x i =>
    simp only [apure] at h
    split at h
    · rename_i vs hx
      have hv := hρ x
      rw [hx] at hv
      generalize hx' : ρ' x = x' at hv
      cases hv with
      | tuple hs hr =>
        rename_i ws
        have hi : i < vs.size := by
          rcases Nat.lt_or_ge i vs.size with h0 | h0
          · exact h0
          · rw [Array.getElem?_eq_none h0] at h; cases h
        have hi' : i < ws.size := by omega
        refine ⟨ws[i], run_v ?_, hr i _ _ h (by simp [hi'])⟩
        rw [hx']
        simp [Instr.extract, hi']
    · cases h
  | typeAssert x xt at_ ok => obtain ⟨v', h1, h2⟩ := typeAssert_sound ht hρ h w; exact ⟨v', run_v h1, h2⟩
  | call c => exact call_sound ht hρ h w
  | _ => cases h

end
end Go.Ab
