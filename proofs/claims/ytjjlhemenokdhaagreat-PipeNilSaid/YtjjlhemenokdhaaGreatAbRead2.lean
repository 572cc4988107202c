import Derived.Test.YtjjlhemenokdhaaGreatAbRead
namespace Go.Ab
section
variable {tb : Tab} {μ : Mu} {W : World} {M : Mem}

theorem sameNow_rel {d : TypeDesc} {a b a' b' : Value} {r : Bool} (h : Instr.sameNow d a b = some r) (ha : VR μ a a') (hb : VR μ b b') : Instr.sameNow d a' b' = some r := by
  unfold Instr.sameNow at h
  split at h <;> first | (cases h; done) | (cases ha; cases hb; exact h)

theorem findNow_rel {d : TypeDesc} {k k' : Value} (hk : VR μ k k') {es es' : List MapEntry} (he : All2 (EntR μ) es es') : ∀ (i : Nat) (r : Option (Nat × Value)), Instr.findNow d k es i = some r →
    ∃ r', Instr.findNow d k' es' i = some r' ∧ (match r, r' with | none, none => True | some (j, v), some (j', v') => j = j' ∧ VR μ v v' | _, _ => False) := by
  induction he with
  | nil => intro i r h; simp only [Instr.findNow, Option.some.injEq] at h; subst h; exact ⟨none, rfl, trivial⟩
  | cons h _ ih =>
    intro i r hf
    simp only [Instr.findNow] at hf ⊢
    split at hf
    · rename_i hs
      cases hf
      rw [sameNow_rel hs hk h.key]
      exact ⟨_, rfl, rfl, h.val⟩
    · rename_i hs
      rw [sameNow_rel hs hk h.key]
      exact ih _ _ hf
    · cases hf

theorem keyKind_ok (ht : TabOK tb) {t : TypeId} {d : TypeDesc} (h : keyKind? tb t = some d) :
    (∀ w, (underlying t).run tb.P w = .ok d w) ∧ (∀ (b : Bool) (n : Nat) (v : Value) (w : World), (Instr.checkKey b (n + 1) t v).run tb.P w = .ok () w) := by
  unfold keyKind? at h
  split at h
  · rename_i k hu
    cases h
    refine ⟨run_under ht hu, fun b n v w => ?_⟩
    simp only [Instr.checkKey, Sem.run_bind, run_under ht hu, Result.andThen_ok]
    rfl
  · rename_i hu
    cases h
    refine ⟨run_under ht hu, fun b n v w => ?_⟩
    simp only [Instr.checkKey, Sem.run_bind, run_under ht hu, Result.andThen_ok]
    rfl
  · rename_i hu
    cases h
    refine ⟨run_under ht hu, fun b n v w => ?_⟩
    simp only [Instr.checkKey, Sem.run_bind, run_under ht hu, Result.andThen_ok]
    rfl
  · cases h

theorem findKey_run (ht : TabOK tb) {t : TypeId} {d : TypeDesc} (h : keyKind? tb t = some d) {k : Value} {es : List MapEntry} {r : Option (Nat × Value)} (hf : Instr.findNow d k es 0 = some r) (w : World) :
    (Instr.findKey t k es).run tb.P w = .ok r w := by
  simp [Instr.findKey, (keyKind_ok ht h).1, hf]

theorem entries_sound (hM : ReadR μ M W) {r : Option Nat} {es : List MapEntry} {x' : Value} (h : entries? M r = some es) (hx : VR μ (.map r) x') :
    ∃ r' es', x' = .map r' ∧ All2 (EntR μ) es es'.toList ∧ (r' = none ∧ es' = #[] ∨ ∃ b c, r' = some b ∧ W.heap[b]? = some (.map es' c)) := by
  unfold entries? at h
  cases r with
  | none => cases h; cases hx; exact ⟨none, #[], rfl, .nil, .inl ⟨rfl, rfl⟩⟩
  | some B =>
    simp only at h
    split at h
    · rename_i es0 c hb
      cases h
      cases hx with
      | map hB =>
        have hk := hM.blk B _ _ hb hB
        cases hk with
        | obj hh h0 hk =>
          cases hk with
          | map he => exact ⟨_, _, rfl, he, .inr ⟨_, _, rfl, hh⟩⟩
    · cases h

theorem getObj_run {P : Program} {b : Nat} {o : Obj} (h : W.heap[b]? = some o) (hc : ∀ c e f, o ≠ .cells c e f) : (getObj b).run P W = .ok o W := by
  simp only [getObj, Sem.run, h]

theorem lookup_sound (ht : TabOK tb) (hM : ReadR μ M W) {ρ ρ' : Operand → Value} (hρ : ∀ x, VR μ (ρ x) (ρ' x)) {t : TypeId} {x ix : Operand} {ok : Bool} {dst : Option Tmp} {ty : TypeId} {pos : String} {after : Array Edge} {guard : Option (Nat × Bool)} {v : Value}
    (h : aread tb ρ ⟨dst, .lookup t x ix ok, ty, pos, after, guard⟩ M = some v) :
    ∃ v', (Instr.lookup t (ρ' x) (ρ' ix) ok).run tb.P W = .ok v' W ∧ VR μ v v' := by
  have hx := hρ x
  have hi := hρ ix
  simp only [aread] at h
  generalize ρ x = a at h hx
  generalize ρ' x = a' at hx ⊢
  generalize ρ ix = b at h hi
  generalize ρ' ix = b' at hi ⊢
  split at h
  · rename_i key elem r hu
    split at h
    · rename_i d es hk he
      obtain ⟨r', es', rfl, hes, hr'⟩ := entries_sound hM he hx
      obtain ⟨hk1, hk2⟩ := keyKind_ok ht hk
      have hck : ∀ (b : Bool) (v : Value), (Instr.checkKey b 10000 key v).run tb.P W = .ok () W := fun b v => hk2 b 9999 v W
      split at h
      · rename_i j u hf
        cases h
        obtain ⟨rr, hf', hrel⟩ := findNow_rel hi hes 0 _ hf
        cases rr with
        | none => exact hrel.elim
        | some q =>
          obtain ⟨j', u'⟩ := q
          obtain ⟨rfl, hu'⟩ := hrel
          have hfk := findKey_run ht hk hf' W
          refine ⟨bif ok then .tuple #[u', .bool true] else u', ?_, ?_⟩
          · rcases hr' with ⟨rfl, rfl⟩ | ⟨bb, cc, rfl, hh⟩
            · cases ok <;> simp [Instr.lookup, run_under ht hu, hck, hfk]
            · have hg := getObj_run (P := tb.P) hh (by simp)
              cases ok <;> simp [Instr.lookup, run_under ht hu, hck, hfk, hg]
          · cases ok with
            | true => exact VR.tuple2 (.cons hu' (.cons (.bool _) .nil))
            | false => exact hu'
      · rename_i hf
        obtain ⟨z, hz, rfl⟩ := map_some h
        obtain ⟨rr, hf', hrel⟩ := findNow_rel hi hes 0 _ hf
        cases rr with
        | some q => exact hrel.elim
        | none =>
          have hfk := findKey_run ht hk hf' W
          have hrz := run_zero ht hz W
          refine ⟨bif ok then .tuple #[z, .bool false] else z, ?_, ?_⟩
          · rcases hr' with ⟨rfl, rfl⟩ | ⟨bb, cc, rfl, hh⟩
            · cases ok <;> simp [Instr.lookup, run_under ht hu, hck, hfk, hrz]
            · have hg := getObj_run (P := tb.P) hh (by simp)
              cases ok <;> simp [Instr.lookup, run_under ht hu, hck, hfk, hg, hrz]
          · cases ok with
            | true => exact VR.tuple2 (.cons (zero_self ht hz) (.cons (.bool _) .nil))
            | false => exact zero_self ht hz
      · cases h
    · cases h
  · cases h

theorem ptrEq_sound (ht : TabOK tb) {op : BinOp} {t e : TypeId} {a b : Addr} {x' y' v : Value} {n : Nat} (x y : Operand) (hu : under tb t = some (.pointer e)) (hs : sizeOf? tb e = some (n + 1)) (hx : VR μ (.pointer (some a)) x') (hy : VR μ (.pointer (some b)) y')
    (hb : a.block = b.block) (h : (match op with | .eql => some (Value.bool (Nat.beq a.off b.off)) | .neq => some (.bool (!Nat.beq a.off b.off)) | _ => none) = some v) :
    (do eqGuard op t x y x' y'; binOp op t x' y' : Sem Value).run tb.P W = .ok v W ∧ VR μ v v := by
  obtain ⟨a', rfl, B, o, r, rfl, hB, rfl⟩ := AddrR.of_ptr hx
  obtain ⟨b', rfl, C, o2, r2, rfl, hC, rfl⟩ := AddrR.of_ptr hy
  simp only at hb
  subst hb
  rw [hB] at hC
  cases hC
  have hs' := run_size ht hs W
  have heq : (Op.equal t (.pointer (some ⟨r.blk, r.off + o, none⟩)) (.pointer (some ⟨r.blk, r.off + o2, none⟩))).run tb.P W = .ok (Nat.beq o o2) W := by
    have h1 : (sameAddr ⟨r.blk, r.off + o, none⟩ ⟨r.blk, r.off + o2, none⟩).run tb.P W = .ok (Nat.beq o o2) W := by
      simp only [sameAddr, beq_self_eq_true, if_true]
      have : ((⟨r.blk, r.off + o, none⟩ : Addr) == ⟨r.blk, r.off + o2, none⟩) = Nat.beq o o2 := by
        by_cases e : o = o2
        · subst e; rw [Nat.beq_refl, beq_self_eq_true]
        · rw [nbeq_ne e]
          simp [e]
      rw [this]; rfl
    show (Op.equalIn (9999 + 1) t _ _).run tb.P W = _
    rw [Op.equalIn]
    simp only [Sem.run_bind, run_under ht hu, Result.andThen_ok, hs']
    simp only [ne_eq, Nat.add_eq_zero_iff, Nat.succ_ne_self, and_false, not_false_eq_true, if_true]
    exact h1
  cases op <;> first | (cases h; done) | skip
  · cases h
    refine ⟨?_, .bool _⟩
    have h1 : eqGuard .eql t x y (.pointer (some ⟨r.blk, r.off + o, none⟩)) (.pointer (some ⟨r.blk, r.off + o2, none⟩)) = pure () := rfl
    have h2 : binOp .eql t (.pointer (some ⟨r.blk, r.off + o, none⟩)) (.pointer (some ⟨r.blk, r.off + o2, none⟩)) = (do pure (.bool (← Op.equal t (.pointer (some ⟨r.blk, r.off + o, none⟩)) (.pointer (some ⟨r.blk, r.off + o2, none⟩))))) := rfl
    rw [h1, h2]
    simp only [Sem.run_bind, Sem.run_pure, Result.andThen_ok, heq]
  · cases h
    refine ⟨?_, .bool _⟩
    have h1 : eqGuard .neq t x y (.pointer (some ⟨r.blk, r.off + o, none⟩)) (.pointer (some ⟨r.blk, r.off + o2, none⟩)) = pure () := rfl
    have h2 : binOp .neq t (.pointer (some ⟨r.blk, r.off + o, none⟩)) (.pointer (some ⟨r.blk, r.off + o2, none⟩)) = (do pure (.bool (!(← Op.equal t (.pointer (some ⟨r.blk, r.off + o, none⟩)) (.pointer (some ⟨r.blk, r.off + o2, none⟩)))))) := rfl
    rw [h1, h2]
    simp only [Sem.run_bind, Sem.run_pure, Result.andThen_ok, heq]

theorem all2_length {α β : Type} {R : α → β → Prop} {x : Array α} {y : Array β} (h : All2 R x.toList y.toList) : x.size = y.size := by simpa using h.length

/-- Operations that look at memory: the executor tells what they tell. -/
theorem aread_sound (ht : TabOK tb) (hM : ReadR μ M W) {ρ ρ' : Operand → Value} (hρ : ∀ x, VR μ (ρ x) (ρ' x)) {o : Oper} {v : Value} (h : aread tb ρ o M = some v) :
    ∃ v', (execOp ρ' o).run tb.P W = .ok (.value v') W ∧ VR μ v v' := by
  obtain ⟨dst, op, ty, pos, after, guard⟩ := o
  cases op with
  | load t x =>
    have hx := hρ x
    simp only [aread] at h
    simp only [execOp]
    generalize ρ x = a at h hx
    generalize ρ' x = a' at hx ⊢
    split at h
    · obtain ⟨a2, rfl, hA⟩ := AddrR.of_ptr hx
      obtain ⟨v', h1, h2⟩ := load_sound ht hM h hA
      refine ⟨v', run_v ?_, h2⟩
      simp [Instr.loadAt, Instr.sureAddr, h1]
    · cases h
  | convert src d x => obtain ⟨v', h1, h2⟩ := convert_read ht hM hρ h; exact ⟨v', run_v h1, h2⟩
  | slice t x lo hi mx =>
    simp only [aread] at h
    obtain ⟨v', h1, h2⟩ := sliceOpen_sound ht hM h (hρ x) (OR.map hρ lo) (OR.map hρ hi) (OR.map hρ mx)
    exact ⟨v', run_v h1, h2⟩
  | lookup t x ix ok => obtain ⟨v', h1, h2⟩ := lookup_sound ht hM hρ h; exact ⟨v', run_v h1, h2⟩
  | call c =>
    obtain ⟨callee, args, argTypes⟩ := c
    simp only [aread] at h
    cases callee with
    | value f => cases h
    | invoke r n => cases h
    | builtin b =>
      cases b <;> first | (cases h; done) | skip
      simp only at h
      split at h
      · rename_i x t ha hat
        split at h
        · rename_i k e r hu hx
          split at h
          · rename_i es c hb
            cases h
            have hv := hρ x
            rw [hx] at hv
            generalize hx' : ρ' x = u at hv
            cases hv with
            | map hB =>
              have hk := hM.blk _ _ _ hb hB
              cases hk with
              | obj hh h0 hk =>
                cases hk with
                | map he =>
                  refine ⟨.int .i64 es.size, ?_, .int _ _⟩
                  have hg := getObj_run (P := tb.P) hh (by simp)
                  have hd : (Builtin.len_ argTypes ty (args.map ρ')).run tb.P W = .ok (.int .i64 es.size) W := by
                    rw [one_arg ha, one_arg' hat, hx']
                    simp [Builtin.len_, run_under ht hu, goInt, hg, all2_length he]
                  exact run_v hd
          · cases h
        · cases h
      · cases h
  | binOp op t x y yt =>
    have hx := hρ x
    have hy := hρ y
    simp only [aread] at h
    refine (?_ : ∃ v', (do pure (Next.value (← (do eqGuard op t x y (ρ' x) (ρ' y); binOp op t (ρ' x) (ρ' y)))) : Sem Next).run tb.P W = .ok (.value v') W ∧ VR μ v v')
    generalize ρ x = a at h hx
    generalize ρ' x = a' at hx ⊢
    generalize ρ y = b at h hy
    generalize ρ' y = b' at hy ⊢
    split at h
    · rename_i e a b hu
      split at h
      · rename_i n hs
        obtain ⟨hb, h⟩ := bif_some h
        obtain ⟨h1, h2⟩ := ptrEq_sound (W := W) ht x y hu hs hx hy (eq_of_nbeq hb) h
        exact ⟨v, run_v h1, h2⟩
      · cases h
    · cases h
  | _ => cases h
end
end Go.Ab
