import Derived.Test.YtjjlhemenokdhaaGreatAbNoisy2
namespace Go.Ab
section
variable {tb : Tab} {μ : Mu} {W : World} {M : Mem}

theorem two_args {ρ : Operand → Value} {a : Array Operand} {x y : Operand} (h : a.toList = [x, y]) : a.map ρ = #[ρ x, ρ y] := by
  apply Array.ext'
  rw [Array.toList_map, h]; rfl
theorem two_args' {α : Type} {a : Array α} {x y : α} (h : a.toList = [x, y]) : a = #[x, y] := Array.ext' (by rw [h])

/-- Operations that change memory: the executor's memory stands for the world's behind them too. -/
theorem amem_sound (ht : TabOK tb) (hM : MemR μ M W) {ρ ρ' : Operand → Value} (hρ : ∀ x, VR μ (ρ x) (ρ' x)) {o : Oper} {v : Value} {M' : Mem} (h : amem tb ρ o M = some (v, M')) : OpDoes tb μ M W (execOp ρ' o) v M' := by
  obtain ⟨dst, op, ty, pos, after, guard⟩ := o
  have upd : ∀ t x key w, (match under tb t, ρ x with
    | some (.map kt _), .map (some r) =>
      match keyKind? tb kt, getBlk M r with
      | some d, some (.obj (.map es clock)) =>
        bif closed 1 (ρ key) then
          match Instr.findNow d (ρ key) es.toList 0 with
          | some (some (i, _)) => some (undef, setBlk M r (.obj (.map (es.modify i fun e => { e with key := ρ key, val := ρ w }) clock)))
          | some none => some (undef, setBlk M r (.obj (.map (es.push { key := ρ key, val := ρ w, born := clock }) (clock + 1))))
          | none => none
        else none
      | _, _ => none
    | _, _ => none) = some (v, M') → OpDoes tb μ M W (do Instr.mapUpdate t (ρ' x) (ρ' key) (ρ' w); pure .skip) v M' := by
    intro t x key w h
    split at h
    · rename_i kt et r hu hx
      have hxv := hρ x
      rw [hx] at hxv
      split at h
      · rename_i d es clock hk hb
        obtain ⟨hc, h⟩ := bif_some h
        split at h
        · rename_i i u hf
          cases h
          exact mapUpdate_sound ht hM hu hk hb hxv (hρ key) (hρ w) hc hf
        · rename_i hf
          cases h
          exact mapUpdate_sound ht hM hu hk hb hxv (hρ key) (hρ w) hc hf
        · cases h
      · cases h
    · cases h
  cases op with
  | store t x w =>
    have hx := hρ x
    simp only [amem] at h
    split at h
    · rename_i a hxa
      rw [hxa] at hx
      cases hs : store? tb t a (ρ w) M with
      | none => rw [hs] at h; cases h
      | some M1 =>
        rw [hs] at h
        cases h
        obtain ⟨a', ha', hA⟩ := AddrR.of_ptr hx
        obtain ⟨W', r1, r2, r3⟩ := store_sound ht hM hs hA (hρ w)
        simp only [execOp]
        rw [ha']
        exact unit_op r1 r2 r3
    · cases h
  | mapUpdate t x key w => exact upd t x key w h
  | insert t x key w => exact upd t x key w h
  | range t x =>
    have hx := hρ x
    simp only [amem] at h
    split at h
    · rename_i s hu hxs
      rw [hxs] at hx
      cases h
      exact (range_sound ht hM hu hx).op
    · cases h
  | next x isS =>
    cases isS with
    | false => cases h
    | true =>
    have hx := hρ x
    simp only [amem] at h
    split at h
    · rename_i r hxs
      rw [hxs] at hx
      split at h
      · rename_i s p hb
        obtain ⟨n1, n2⟩ := next_sound (tb := tb) hM ty hx hb
        cases hc : Nat.blt p s.size with
        | true =>
          rw [hc] at h
          cases h
          exact (n1 (lt_of_blt hc)).op
        | false =>
          rw [hc] at h
          cases h
          exact (n2 (by have := ge_of_blt hc; omega)).op
      · cases h
    · cases h
  | convert src d x =>
    have hx := hρ x
    simp only [amem] at h
    split at h
    · rename_i dd e s hs hd hxs
      rw [hxs] at hx
      split at h
      · rename_i he
        cases h
        exact (toBytes_sound ht hM hs hd he hx).op
      · cases h
    · rename_i e2 e a n c hs hd hxs
      rw [hxs] at hx
      split at h
      · rename_i he hb
        obtain ⟨hc, h⟩ := bif_some h
        cases h
        simp only [Bool.and_eq_true] at hc
        have := eq_of_nbeq hc.1
        subst this
        exact (sameBytes_sound ht hM hs hd he hx hb (lt_of_blt hc.2)).op
      · cases h
    · cases h
  | call c =>
    obtain ⟨callee, args, argTypes⟩ := c
    simp only [amem] at h
    cases callee with
    | value f => cases h
    | invoke r n => cases h
    | builtin b =>
      cases b <;> first | (cases h; done) | skip
      · -- append
        simp only at h
        split at h
        · rename_i s x t t2 ha hat
          split at h
          · rename_i e size bytes z d hsz hd
            have hdo := (append_sound (ty := ty) ht hM hsz hd h (hρ s) (hρ x)).op
            have he : execOp ρ' ⟨dst, .call ⟨.builtin .append, args, argTypes⟩, ty, pos, after, guard⟩ = (do pure (.value (← Builtin.append_ argTypes ty (args.map ρ')))) := rfl
            rw [he, two_args ha, two_args' hat]
            exact hdo
          · cases h
        · cases h
      · -- copy
        simp only at h
        split at h
        · rename_i s x t t2 ha hat
          split at h
          · rename_i e size bytes z hsz
            have hdo := (copy_sound (t2 := t2) (ty := ty) ht hM hsz h (hρ s) (hρ x)).op
            have he : execOp ρ' ⟨dst, .call ⟨.builtin .copy, args, argTypes⟩, ty, pos, after, guard⟩ = (do pure (.value (← Builtin.copy_ argTypes ty (args.map ρ')))) := rfl
            rw [he, two_args ha, two_args' hat]
            exact hdo
          · cases h
        · cases h
      · -- unsafe.String
        simp only at h
        split at h
        · rename_i p l t t2 ha hat
          split at h
          · rename_i u a k n hu hp hl
            split at h
            · rename_i c d kk opn e vs hb hsu hr
              obtain ⟨hc, h2⟩ := bif_some h
              clear h
              simp only [Bool.and_eq_true] at hc
              have he := eq_of_nbeq hc.1
              rw [he] at hb
              cases hbs : bytesOf? vs with
              | none => rw [hbs] at h2; cases h2
              | some bs =>
                rw [hbs] at h2
                cases h2
                have hpv := hρ p
                have hlv := hρ l
                rw [hp] at hpv
                rw [hl] at hlv
                have hdo := (unsafeString_sound (t2 := t2) (ty := ty) ht hM hu hpv hlv hb hsu hr hbs (le_of_ble hc.2)).op
                have he : execOp ρ' ⟨dst, .call ⟨.builtin .unsafeString, args, argTypes⟩, ty, pos, after, guard⟩ = (do pure (.value (← Builtin.unsafeString_ argTypes ty (args.map ρ')))) := rfl
                rw [he, two_args ha, two_args' hat]
                exact hdo
            · cases h
          · cases h
        · cases h
  | _ => cases h

end
end Go.Ab
