import Derived.Test.YtjjlhemenokdhaaGreatAbFn
namespace Go.Ab

section
variable {P : Program} {b : Frame} {a : Act} {k : List Item} {c : Frame} {cs : List Frame} {w w' : World} {l : Nat}

theorem st_beginRound (hb : b.roundOf = some l) (hr : (Instr.beginRound l).run P w = .ok () w') : step P (lone (mk b a (.beginRound :: k)) cs w) = .next (lone (mk b a k) cs w') :=
  step_lone_go (by simp [stepG, stepG.exec, stepG.apply, mk, hb, hr, Frame.finish])

theorem st_round_end {v : Value} (hb : b.roundOf = some l) (hk : b.kind = .normal) (hr : (Instr.endRound l none).run P w = .ok v w') : step P (lone (mk b a []) (c :: cs) w) = .next (lone (c.finish v) cs w') :=
  step_lone_go (by simp [stepG, stepG.exec, mk, hb, hk, hr, doReturn])

theorem st_round_ret {v : Value} (hb : b.roundOf = some l) (hk : b.kind = .normal) (hr : (Instr.endRound l (some .ret)).run P w = .ok v w') : step P (lone (mk b a (.code .ret :: k)) (c :: cs) w) = .next (lone (c.finish v) cs w') :=
  step_lone_go (by simp [stepG, stepG.exec, mk, hb, hk, hr, doReturn])

theorem st_round_exit {id : Nat} {v : Value} (hb : b.roundOf = some l) (hk : b.kind = .normal) (he : exitTo id k = none) (hr : (Instr.endRound l (some (.exit id))).run P w = .ok v w') :
    step P (lone (mk b a (.code (.exit id) :: k)) (c :: cs) w) = .next (lone (c.finish v) cs w') :=
  step_lone_go (by simp [stepG, stepG.exec, mk, hb, hk, hr, he, doReturn])
end

section
variable {tb : Tab} {μ : Mu} {W : World} {st st' : St} {a : Act} {b : Frame} {cs : List Frame} {run : Runner} {M : Mem}

theorem fold_params {nt : Nat} : ∀ {ps : List Tmp} {args args' : List Value} {t : T Value} {x : Array Value}, All2 (VR μ) args args' → TmpsR μ nt t x →
    TmpsR μ nt ((ps.zip args).foldl (fun t (p : Tmp × Value) => bif Nat.blt p.1 nt then t.set p.1 p.2 else t) t) ((ps.zip args').foldl (fun tmps (p : Tmp × Value) => tmps.setIfInBounds p.1 p.2) x) := by
  intro ps
  induction ps with
  | nil => intro args args' t x _ hT; exact hT
  | cons p ps ih =>
    intro args args' t x ha hT
    cases ha with
    | nil => exact hT
    | @cons v v' as as' hv hs =>
      simp only [List.zip_cons_cons, List.foldl_cons]
      refine ih hs ?_
      cases hlt : Nat.blt p nt with
      | true =>
        simp only [cond_true]
        refine ⟨by simp [hT.size], fun i => ?_⟩
        have hp : p < nt := lt_of_blt hlt
        rw [T.get_set]
        by_cases hi : i = p
        · subst hi
          have : i < x.size := by rw [hT.size]; exact hp
          simp [this, hv]
        · have := hT.at_ i
          simpa [hi, Array.getElem?_setIfInBounds, Ne.symm hi] using this
      | false =>
        simp only [cond_false]
        have hp : ¬ p < x.size := by
          rw [hT.size]
          intro hlt'
          have : Nat.blt p nt = true := Nat.ble_eq ▸ hlt'
          rw [this] at hlt; cases hlt
        have hx : x.setIfInBounds p v' = x := by simp [Array.setIfInBounds, hp]
        rw [hx]
        exact hT

/-- A round of a range over a function. -/
theorem round_fn_sound (ht : TabOK tb) (hrun : RunSound tb run) {L : Nat} {l : Nat} {args : List Value} {out : Out} {M' : Mem} (h : roundFn tb run L l args M = some (out, M')) : RoundOK tb l args M out M' := by
  intro μ W args' r hg hM ha hl
  unfold roundFn at h
  split at h
  · rename_i x0 pe0 fn nt tmps params assign body d hb
    obtain ⟨hlen, h2⟩ := bif_some h
    clear h
    have hlen : args.length = params.size := Nat.eq_of_beq_eq_true hlen
    have hbk := hM.blk _ _ _ hb hl
    cases hbk with
    | @loop _ _ _ _ _ _ _ _ _ rd tmps' hh hd hT =>
      have hsz : args'.size = params.size := by rw [← hlen]; simpa using ha.length.symm
      -- the frame
      generalize hx : (params.zip args').foldl (fun tmps (p : Tmp × Value) => tmps.setIfInBounds p.1 p.2) tmps' = x
      have hyield : (Instr.yield r.blk args').run tb.P W = .ok (.round r.blk fn x assign body) W := by
        simp only [Instr.yield, Sem.run_bind, getLoop_run hh, Result.andThen_ok, hsz, ne_eq, not_true, if_false, Sem.run_pure]
        rw [← hx]
      have hTx : TmpsR μ nt ((params.toList.zip args).foldl (fun t (p : Tmp × Value) => bif Nat.blt p.1 nt then t.set p.1 p.2 else t) tmps) x := by
        have := fold_params (ps := params.toList) ha hT
        rw [← hx, ← Array.foldl_toList, Array.toList_zip]
        exact this
      generalize htq : ((params.toList.zip args).foldl (fun t (p : Tmp × Value) => bif Nat.blt p.1 nt then t.set p.1 p.2 else t) tmps) = tq at h2 hTx
      simp only at h2
      split at h2
      · rename_i st1 hc1
        split at h2
        · rename_i pe1 fn1 nt1 tmps1 ps1 as1 bd1 d1 hb1
          split at h2
          · rename_i ex st2 hc2
            split at h2
            · cases h2
            · rename_i jump hj
              split at h2
              · rename_i s2 pe2 fn2 nt2 tmps2 ps2 as2 bd2 d2 hb2
                cases h2
                refine ⟨_, fn, x, assign, body, rfl, hyield, fun c cs => ?_⟩
                have hfr : Frame.round r.blk fn x assign body .normal = mk (Frame.round r.blk fn x assign body .normal) { tmps := x, defers := [] } [.code assign, .beginRound, .code body] := rfl
                have hro : RoundR μ (some l) (Frame.round r.blk fn x assign body .normal).roundOf := ⟨r, hl, rfl⟩
                -- what is assigned
                obtain ⟨μ1, W1, a1, e1, e2, e3, e4, e5, e6⟩ := acode_sound (b := Frame.round r.blk fn x assign body .normal) (rd := some l) ht hrun (fn := fn) (L := L) rfl assign _ st1 .normal { tmps := x, defers := [] } μ W (c :: cs) [.beginRound, .code body] hc1 hg
                  ⟨hM, hTx, .nil⟩ (PanR.normal _ _) hro
                rw [← hfr] at e6
                have hp1 : st1.nz.pan = none := by
                  cases hq : st1.nz.pan with
                  | none => rfl
                  | some v => rw [hq] at e4; exact absurd (e4 rfl) (by simp)
                rw [hp1, afterRec_same] at e6
                have e6 : Steps tb.P (lone (Frame.round r.blk fn x assign body .normal) (c :: cs) W) (lone (mk (Frame.round r.blk fn x assign body .normal) a1 [.beginRound, .code body]) (c :: cs) W1) := e6
                -- the round begins
                have hl1 := e1.le _ _ hl
                have hbk1 := e2.mem.blk _ _ _ hb1 hl1
                cases hbk1 with
                | @loop _ _ _ _ _ _ _ _ _ rd1 tmps1' hh1 hd1 hT1 =>
                  obtain ⟨W2, r1, r2, r3⟩ := obj_update (P := tb.P) (o2 := .loop { state := .busy, pending := pe1, fn := fn1, tmps := tmps1', params := ps1, assign := as1, body := bd1, defers := rd1.blk }) e2.mem hb1 rfl rfl hl1 hh1 (by simp)
                    (x' := .loop .busy pe1 fn1 nt1 tmps1 ps1 as1 bd1 d1) (fun W' hW => .loop hW hd1 hT1)
                  have hbegin : (Instr.beginRound r.blk).run tb.P W1 = .ok () W2 := by
                    simp only [Instr.beginRound, Sem.run_bind, getLoop_run hh1, Result.andThen_ok, r1, Sem.run_pure]
                  have s2 := st_beginRound (P := tb.P) (b := Frame.round r.blk fn x assign body .normal) (a := a1) (k := [.code body]) (cs := c :: cs) (l := r.blk) rfl hbegin
                  -- the body
                  obtain ⟨μ3, W3, a3, f1, f2, f3, f4, f5, f6⟩ := acode_sound (b := Frame.round r.blk fn x assign body .normal) (rd := some l) ht hrun (fn := fn) (L := L) rfl body _ st2 ex a1 μ1 W2 (c :: cs) [] hc2 (hg.mono tb e1.le)
                    ⟨r2, e2.tmps, e2.defs⟩ (by simp only; rw [hp1]; exact PanR.normal _ _) (hro.mono e1.le)
                  have hp3 : st2.nz.pan = none := by
                    simp only [hp1] at f4
                    cases hq : st2.nz.pan with
                    | none => rfl
                    | some v => rw [hq] at f4; exact absurd (f4 rfl) (by simp)
                  simp only [hp1, hp3] at f6
                  rw [afterRec_same] at f6
                  -- the round ends
                  have hl3 := f1.le _ _ hl1
                  have hbk3 := f2.mem.blk _ _ _ hb2 hl3
                  cases hbk3 with
                  | @loop _ _ _ _ _ _ _ _ _ rd3 tmps3' hh3 hd3 hT3 =>
                    obtain ⟨W4, q1, q2, q3⟩ := obj_update (P := tb.P) (o2 := .loop { state := if jump.isNone then .ready else .done, pending := jump, fn := fn2, tmps := tmps3', params := ps2, assign := as2, body := bd2, defers := rd3.blk }) f2.mem hb2 rfl rfl hl3 hh3 (by simp)
                      (x' := .loop (if jump.isNone then .ready else .done) jump fn2 nt2 tmps2 ps2 as2 bd2 d2) (fun W' hW => .loop hW hd3 hT3)
                    have hend : (Instr.endRound r.blk jump).run tb.P W3 = .ok (.bool jump.isNone) W4 := by
                      simp only [Instr.endRound, Sem.run_bind, getLoop_run hh3, Result.andThen_ok, q1, Sem.run_pure]
                    refine ⟨μ3, W4, .bool jump.isNone, (e1.trans r3).trans (f1.trans q3), q2, .bool _, e6.trans (.head s2 ?_)⟩
                    cases ex with
                    | normal =>
                      cases hj
                      exact Steps.trans f6 (.one (st_round_end (l := r.blk) rfl rfl hend))
                    | ret =>
                      cases hj
                      obtain ⟨k1, f6⟩ := f6
                      exact Steps.trans f6 (.one (st_round_ret (l := r.blk) rfl rfl hend))
                    | exit id =>
                      cases hj
                      obtain ⟨k1, hk, f6⟩ := f6
                      exact Steps.trans f6 (.one (st_round_exit (l := r.blk) rfl rfl (by rw [hk]; rfl) hend))
                    | pan v => cases hj
              · cases h2
          · cases h2
        · cases h2
      · cases h2
  · cases h

/-- THE EXECUTOR TELLS THE TRUTH. -/
theorem runFn_sound (ht : TabOK tb) (hs : SumsOK tb) (L : Nat) : ∀ n, RunSound tb (runFn tb L n)
  | 0 =>
    { norec := fun _ _ _ _ _ h => by cases h
      fn := fun _ _ _ _ _ h => by cases h
      dfn := fun _ _ _ _ _ _ h => by cases h
      round := fun _ _ _ _ _ h => by cases h }
  | n + 1 =>
    { norec := fun _ _ _ _ _ h => (enter_fn_sound ht hs (runFn_sound ht hs L n) h).2 rfl
      fn := fun _ _ _ _ _ h => (enter_fn_sound ht hs (runFn_sound ht hs L n) h).1
      dfn := fun _ _ _ _ _ _ h => (enter_fn_sound ht hs (runFn_sound ht hs L n) h).1
      round := fun _ _ _ _ _ h => round_fn_sound ht (runFn_sound ht hs L n) h }

end
end Go.Ab
