import Derived.Test.YtjjlhemenokdhaaGreatAbLoop
namespace Go.Ab

section
variable {P : Program} {fr c : Frame} {cs : List Frame} {w w' : World}

theorem stepG_unwind (hm : fr.mode ≠ .run) : stepG P true { frame := fr, callers := cs, status := .running, dying := none } w = unwind P true fr cs none w := by
  cases h : fr.mode with
  | run => exact absurd h hm
  | returning => simp only [stepG, h]
  | panicking l => simp only [stepG, h]

theorem st_collected {block : Nat} {args : Array Value} {ds calls : List Deferred} (hm : fr.mode ≠ .run) (hd : fr.defers = { target := .collected block, args } :: ds) (hr : (Instr.takeDeferred block).run P w = .ok calls w') :
    step P (lone fr cs w) = .next (lone { fr with defers := calls ++ ds } cs w') :=
  step_lone_go (by rw [stepG_unwind hm]; simp [unwind, hd, hr])

theorem st_deferred_enter {f : Fn} {cap : Array Value} {dargs : Array Value} {ds : List Deferred} {g : FuncId} {args : Array Value} (hm : fr.mode ≠ .run) (hd : fr.defers = { target := .fn f cap, args := dargs } :: ds)
    (hr : (invoke (.fn f cap) dargs).run P w = .ok (.enter g args) w') :
    step P (lone fr cs w) = .next (lone (Frame.enter P g args .deferred) ({ fr with defers := ds } :: cs) w') :=
  step_lone_go (by rw [stepG_unwind hm]; simp [unwind, hd, callDeferred, hr])

theorem st_deferred_value {f : Fn} {cap : Array Value} {dargs : Array Value} {ds : List Deferred} {v : Value} (hm : fr.mode ≠ .run) (hd : fr.defers = { target := .fn f cap, args := dargs } :: ds)
    (hr : (invoke (.fn f cap) dargs).run P w = .ok (.value v) w') :
    step P (lone fr cs w) = .next (lone { fr with defers := ds } cs w') :=
  step_lone_go (by rw [stepG_unwind hm]; simp [unwind, hd, callDeferred, hr])

/-- What a frame does where a deferred call of its has returned. -/
def afterDeferred (c : Frame) : Frame :=
  match c.mode with
  | .panicking ({ recovered := true, .. } :: older) =>
    match older.dropWhile (!·.goexit) with
    | [] => { c with mode := .returning }
    | rest => { c with mode := .panicking rest }
  | _ => c

theorem st_deferred_done {fn : Func} {v : Value} (hm : fr.mode = .returning) (hd : fr.defers = []) (hk : fr.kind = .deferred) (hf : P.funcs[fr.fn]? = some fn) (hr : (results fn fr.tmps).run P w = .ok v w) :
    step P (lone fr (c :: cs) w) = .next (lone (afterDeferred c) cs w) :=
  step_lone_go (by
    rw [stepG_unwind (by rw [hm]; simp)]
    simp only [unwind, hd, hm, hf, Sem.runT_eq, hr, doReturn, hk, GStep.bare_after]
    rfl)

end

section
variable {tb : Tab} {μ : Mu} {W : World} {st st' : St} {a : Act} {b : Frame} {cs : List Frame} {run : Runner} {M : Mem}

def ModeR (μ : Mu) (pan : Option Value) (m : FrameMode) : Prop :=
  match pan with
  | none => m = .returning
  | some v => ∃ v', VR μ v v' ∧ m = .panicking [{ v := v', recovered := false }]

theorem ModeR.mono {ν : Mu} {pan : Option Value} {m : FrameMode} (h : ModeR μ pan m) (hm : μ.le ν) : ModeR ν pan m := by
  cases pan with
  | none => exact h
  | some v => obtain ⟨v', h1, h2⟩ := h; exact ⟨v', h1.mono hm, h2⟩

theorem ModeR.ne {pan : Option Value} {m : FrameMode} (h : ModeR μ pan m) : m ≠ .run := by
  cases pan with
  | none => rw [h]; simp
  | some v => obtain ⟨v', h1, h2⟩ := h; rw [h2]; simp

theorem ModeR.panR {pan : Option Value} {fr : Frame} (h : ModeR μ pan fr.mode) : PanR μ pan .deferred (fr :: cs) := by
  cases pan with
  | none =>
    intro q hk
    have hm : fr.mode = .returning := h
    simp [tryRecover, hk, hm]
  | some v =>
    obtain ⟨v', h1, h2⟩ := h
    exact ⟨rfl, fr, cs, v', rfl, h2, h1⟩

theorem takeDeferred_run {P : Program} {r : Nat} {ds : List Deferred} (h : W.heap[r]? = some (.deferred (some ds))) {W' : World} (hs : (setObj r (.deferred none)).run P W = .ok () W') : (Instr.takeDeferred r).run P W = .ok ds W' := by
  simp only [Instr.takeDeferred, Sem.run_bind, getObj_run h (by simp), Result.andThen_ok, hs, Sem.run_pure]

/-- The deferred calls of a frame. -/
theorem unwind_sound (hrun : RunSound tb run) : ∀ (n : Nat) (ds : List Deferred) (pan : Option Value) (M : Mem) (pan' : Option Value) (M' : Mem), unwind? run n ds pan M = some (pan', M') →
    ∀ (μ : Mu) (W : World) (fr : Frame) (cs : List Frame), Glob tb μ → MemR μ M W → All2 (DefR μ) ds fr.defers → ModeR μ pan fr.mode →
      ∃ μ' W' mode, Ext μ M W μ' M' W' ∧ MemR μ' M' W' ∧ ModeR μ' pan' mode ∧ Steps tb.P (lone fr cs W) (lone { fr with defers := [], mode } cs W') := by
  intro n
  induction n with
  | zero => intro ds pan M pan' M' h; cases h
  | succ n ih =>
    intro ds pan M pan' M' h μ W fr cs hg hM hd hmode
    cases ds with
    | nil =>
      cases h
      have hnil : fr.defers = [] := by generalize fr.defers = l at hd; cases hd; rfl
      refine ⟨μ, W, fr.mode, Ext.rfl, hM, hmode, ?_⟩
      rw [← hnil]
      exact .refl _ _
    | cons d ds =>
      obtain ⟨tg, dargs⟩ := d
      generalize hl : fr.defers = l at hd
      cases hd with
      | @cons _ d' _ ds' hd1 hds =>
      obtain ⟨tg', dargs'⟩ := d'
      obtain ⟨htg, hargs⟩ := hd1
      simp only at htg hargs
      unfold unwind? at h
      simp only at h
      cases htg with
      | @collected r rr hrr =>
        simp only at h
        cases hb : getBlk M r with
        | none => rw [hb] at h; cases h
        | some x =>
          rw [hb] at h
          cases x with
          | obj o =>
            cases o with
            | deferred q =>
              cases q with
              | none => cases h
              | some calls =>
                simp only at h
                have hbk := hM.blk _ _ _ hb hrr
                cases hbk with
                | obj hh h0 hok =>
                  cases hok with
                  | @defSome _ calls' hcalls =>
                    obtain ⟨W1, r1, r2, r3⟩ := obj_update (P := tb.P) (o2 := .deferred none) (x' := .obj (.deferred none)) hM hb rfl rfl hrr hh (by simp) (fun W' hW => .obj hW h0 .defNone)
                    have hst := st_collected (P := tb.P) (cs := cs) hmode.ne hl (takeDeferred_run hh r1)
                    obtain ⟨μ', W', mode, e1, e2, e3, e4⟩ := ih _ _ _ _ _ h μ W1 { fr with defers := calls' ++ ds' } cs hg r2 (All2.append hcalls hds) hmode
                    exact ⟨μ', W', mode, r3.trans e1, e2, e3, .head hst e4⟩
            | _ => cases h
          | _ => cases h
      | @fn f f' cap cap' hf hcap =>
        cases hf with
        | yield hl => cases h
        | same hne =>
          cases f with
          | func g =>
            simp only at h
            have hall : All2 (VR μ) (dargs.toList ++ cap.toList) (dargs' ++ cap').toList := by
              rw [Array.toList_append]; exact hargs.append hcap
            split at h
            · -- it returns
              rename_i v rec M1 hr
              rcases hrun.dfn _ _ _ _ _ _ hr μ W (dargs' ++ cap') hg hM hall with ⟨fn, c, hf, hb, hn, hgo⟩ | ⟨hpn, v2, v', μ1, W1, hout, h1, h2, h3, h4⟩
              · obtain ⟨μ1, W1, frx, g1, g2, g3, g4, g5, g6, g7, v', g8, g9⟩ := hgo .deferred ({ fr with defers := ds' } :: cs) (ModeR.panR (fr := { fr with defers := ds' }) hmode)
                have henter := st_deferred_enter (P := tb.P) (cs := cs) (g := g) (args := dargs' ++ cap') (w' := W) hmode.ne hl (by rw [show invoke (.fn (.func g) cap') dargs' = callFunc g (dargs' ++ cap') from rfl]; exact callFunc_enter hf hb hn _ _)
                have hmode1 : ∃ c1, afterRec rec ({ fr with defers := ds' } :: cs) = c1 :: cs ∧ ∃ m1, afterDeferred c1 = { fr with defers := ds', mode := m1 } ∧ ModeR μ1 (bif rec then none else pan) m1 := by
                  cases rec with
                  | false =>
                    refine ⟨_, rfl, fr.mode, ?_, hmode.mono g1.le⟩
                    cases pan with
                    | none => have hm : fr.mode = .returning := hmode; simp [afterDeferred, hm]
                    | some v => obtain ⟨v', _, h2⟩ := hmode; simp [afterDeferred, h2]
                  | true =>
                    refine ⟨_, rfl, .returning, ?_, rfl⟩
                    cases pan with
                    | none => have hm : fr.mode = .returning := hmode; simp [afterDeferred, recMode, hm]
                    | some v => obtain ⟨v', _, h2⟩ := hmode; simp [afterDeferred, recMode, h2]
                obtain ⟨c1, hc1, m1, hm1, hmr⟩ := hmode1
                have g3' := g3
                rw [show (Out.ret v rec).recd = rec from rfl, hc1] at g3'
                have hdone := st_deferred_done (P := tb.P) (c := c1) (cs := cs) (w := W1) g7 g6 g5 (by rw [g4]; exact hf) g8
                rw [hm1] at hdone
                obtain ⟨μ', W', mode, e1, e2, e3, e4⟩ := ih _ _ _ _ _ h μ1 W1 { fr with defers := ds', mode := m1 } cs (hg.mono tb g1.le) g2 (all2_defs hds g1.le) hmr
                exact ⟨μ', W', mode, g1.trans e1, e2, e3, .head henter (g3'.trans (.head hdone e4))⟩
              · cases hout
                have hval := st_deferred_value (P := tb.P) (cs := cs) (w' := W1) (v := v') hmode.ne hl (by rw [show invoke (.fn (.func g) cap') dargs' = callFunc g (dargs' ++ cap') from rfl]; exact h1)
                obtain ⟨μ', W', mode, e1, e2, e3, e4⟩ := ih _ _ _ _ _ h μ1 W1 { fr with defers := ds' } cs (hg.mono tb h4.le) h3 (all2_defs hds h4.le) (hmode.mono h4.le)
                exact ⟨μ', W', mode, h4.trans e1, e2, e3, .head hval e4⟩
            · -- it panics
              rename_i v M1 hr
              split at h
              · rcases hrun.dfn _ _ _ _ _ _ hr μ W (dargs' ++ cap') hg hM hall with ⟨fn, c, hf, hb, hn, hgo⟩ | ⟨hpn, v2, v', μ1, W1, hout, h1, h2, h3, h4⟩
                · obtain ⟨μ1, W1, frx, g1, g2, g3, g4, g5, g6, v', g7, g8⟩ := hgo .deferred ({ fr with defers := ds' } :: cs) (ModeR.panR (fr := { fr with defers := ds' }) hmode)
                  have henter := st_deferred_enter (P := tb.P) (cs := cs) (g := g) (args := dargs' ++ cap') (w' := W) hmode.ne hl (by rw [show invoke (.fn (.func g) cap') dargs' = callFunc g (dargs' ++ cap') from rfl]; exact callFunc_enter hf hb hn _ _)
                  have hlv := step_leave_panicked (P := tb.P) (fr := frx) (c := { fr with defers := ds' }) (cs := cs) (w := W1) (chain := [{ v := v', recovered := false }]) ⟨g7, g6, fn, by rw [g4]; exact hf⟩
                  have hm : fr.mode = .returning := hmode
                  have hraise : ({ fr with defers := ds' } : Frame).raise [{ v := v', recovered := false }] = { fr with defers := ds', mode := .panicking [{ v := v', recovered := false }] } := by
                    simp [Frame.raise, hm]
                  rw [hraise] at hlv
                  obtain ⟨μ', W', mode, e1, e2, e3, e4⟩ := ih _ _ _ _ _ h μ1 W1 { fr with defers := ds', mode := .panicking [{ v := v', recovered := false }] } cs (hg.mono tb g1.le) g2 (all2_defs hds g1.le) ⟨v', g8, rfl⟩
                  exact ⟨μ', W', mode, g1.trans e1, e2, e3, .head henter (g3.trans (.head hlv e4))⟩
                · cases hout
              · cases h
            · cases h
          | _ => cases h

end
end Go.Ab
