import Derived.Test.YtjjlhemenokdhaaGreatAbUnwind
import Derived.Test.YtjjlhemenokdhaaGreatAbCode
import Derived.Laws.Externs
namespace Go.Ab

section
variable {tb : Tab} {μ : Mu} {W : World} {st st' : St} {a : Act} {b : Frame} {cs : List Frame} {run : Runner} {M : Mem}

theorem tmps_enter {args : List Value} {args' : Array Value} (ha : All2 (VR μ) args args'.toList) (n : Nat) :
    TmpsR μ (Nat.max n args.length) (T.nil.fill 0 args) (args' ++ Array.replicate (n - args'.size) undef) := by
  have hl : args.length = args'.size := by simpa using ha.length
  refine ⟨?_, fun i => ?_⟩
  · simp only [Array.size_append, Array.size_replicate, hl]
    change _ = max n args'.size
    omega
  · rw [T.get_fill]
    simp only [Nat.zero_le, true_and, Nat.zero_add, Nat.sub_zero, T.get_nil]
    by_cases hi : i < args.length
    · rw [if_pos hi]
      have hi' : i < args'.size := by omega
      obtain ⟨v, h1⟩ : ∃ v, args[i]? = some v := ⟨args[i], by simp [hi]⟩
      obtain ⟨v', h2, h3⟩ := ha.get i v h1
      rw [h1]
      have : (args' ++ Array.replicate (n - args'.size) undef).getD i undef = v' := by
        have h2' : args'[i]? = some v' := by simpa using h2
        rw [Array.getElem?_eq_getElem hi'] at h2'
        simp [Array.getElem?_append, hi', Option.some.inj h2']
      rw [this]
      exact h3
    · rw [if_neg hi]
      have : (args' ++ Array.replicate (n - args'.size) undef).getD i undef = undef := by
        have hi' : ¬ i < args'.size := by omega
        simp only [Array.getD_eq_getD_getElem?, Array.getElem?_append, hi', if_false, Array.getElem?_replicate]
        split <;> rfl
      rw [this]
      exact .tuple rfl (by simp)

/-- A result variable as the model reads it. -/
def readResult (tmps : Array Value) : ResultVar → Sem Value
  | .tmp t => pure (tmps.getD t undef)
  | .cell a t => do loadVar t (← asAddr (tmps.getD a undef))

theorem result_sound (ht : TabOK tb) (hM : MemR μ M W) {nt : Nat} {tmps : T Value} {x : Array Value} (hT : TmpsR μ nt tmps x) {r : ResultVar} {v : Value} (h : result? tb tmps M r = some v) :
    ∃ v', (readResult x r).run tb.P W = .ok v' W ∧ VR μ v v' := by
  cases r with
  | tmp t =>
    cases h
    exact ⟨_, rfl, hT.at_ t⟩
  | cell c t =>
    simp only [result?] at h
    have hat := hT.at_ c
    split at h
    · rename_i p hp
      rw [hp] at hat
      simp only at hat
      generalize hu : x.getD c undef = u at hat
      obtain ⟨p', rfl, hA⟩ := AddrR.of_ptr hat
      obtain ⟨v', h1, h2⟩ := load_sound ht hM.toReadR h hA
      refine ⟨v', ?_, h2⟩
      simp only [readResult, hu, asAddr, Sem.run_bind, Sem.run_pure, Result.andThen_ok, h1]
    · cases h

theorem resultList_sound (ht : TabOK tb) (hM : MemR μ M W) {nt : Nat} {tmps : T Value} {x : Array Value} (hT : TmpsR μ nt tmps x) : ∀ {l : List ResultVar} {vs : List Value}, resultList? tb tmps M l = some vs →
    ∃ vs', (l.mapM (readResult x)).run tb.P W = .ok vs' W ∧ All2 (VR μ) vs vs'
  | [], vs, h => by cases h; exact ⟨[], rfl, .nil⟩
  | r :: l, vs, h => by
    unfold resultList? at h
    cases h1 : result? tb tmps M r with
    | none => rw [h1] at h; cases h
    | some v =>
      rw [h1] at h
      simp only at h
      cases h2 : resultList? tb tmps M l with
      | none => rw [h2] at h; cases h
      | some vs2 =>
        rw [h2] at h
        cases h
        obtain ⟨v', g1, g2⟩ := result_sound ht hM hT h1
        obtain ⟨vs', g3, g4⟩ := resultList_sound ht hM hT h2
        exact ⟨v' :: vs', by simp only [List.mapM_cons, Sem.run_bind, g1, g3, Result.andThen_ok, Sem.run_pure], .cons g2 g4⟩

theorem results_sound (ht : TabOK tb) (hM : MemR μ M W) {nt : Nat} {tmps : T Value} {x : Array Value} (hT : TmpsR μ nt tmps x) {fn : Func} {v : Value} (h : results? tb fn tmps M = some v) :
    ∃ v', (results fn x).run tb.P W = .ok v' W ∧ VR μ v v' := by
  unfold results? at h
  cases h1 : resultList? tb tmps M fn.results.toList with
  | none => rw [h1] at h; cases h
  | some vs =>
    rw [h1] at h
    obtain ⟨vs', g1, g2⟩ := resultList_sound ht hM hT h1
    have hrun : (results fn x).run tb.P W = .ok (if h : vs'.toArray.size = 1 then vs'.toArray[0] else .tuple vs'.toArray) W := by
      have : results fn x = (do let vs ← fn.results.mapM (readResult x); pure (if h : vs.size = 1 then vs[0] else .tuple vs)) := by
        unfold results
        congr 2
      rw [this, Array.mapM_eq_mapM_toList]
      simp only [Sem.run_bind, Sem.run_map, g1, Result.andThen_ok, Sem.run_pure]
    refine ⟨_, hrun, ?_⟩
    cases g2 with
    | nil =>
      simp only at h
      cases h
      exact VR.tuple2 .nil
    | cons h3 h4 =>
      cases h4 with
      | nil => simp only at h; cases h; simpa using h3
      | cons h5 h6 =>
        simp only at h
        cases h
        exact VR.tuple2 (x' := (_ :: _ :: _ : List Value).toArray) (.cons h3 (.cons h5 h6))

theorem cell_facts {P : Program} (hM : MemR μ M W) {a a' : Addr} {v : Value} (h : readCells M a 1 = some [v]) (ha : AddrR μ a a') :
    ∃ v', W.cell? a' = some v' ∧ VR μ v v' ∧ W.frozen? a' = false ∧ (viewAt a'.block).run P W = .ok none W := by
  obtain ⟨vs', h1, h2, h3⟩ := readCells_sound hM.toReadR h (fun _ => ha)
  cases h1 with
  | cons hv hr =>
    cases hr
    rename_i v'
    have g := h3 0 v' (by simp)
    have h0 : a'.add 0 = a' := by unfold Addr.add; simp
    rw [h0] at g
    obtain ⟨B, o, r, rfl, hB, rfl⟩ := ha
    simp only [readCells] at h
    cases hb : getBlk M B with
    | none => rw [hb] at h; cases h
    | some x =>
      rw [hb] at h
      cases x <;> first | (cases h; done) | skip
      have hx := hM.blk B _ r hb hB
      cases hx with
      | cells hh hk =>
        rename_i arr fz
        refine ⟨v', g, hv, ?_, viewAt_run hh⟩
        rw [cell?_of hh] at g
        have hlt : r.off + o < arr.size := by
          rcases Nat.lt_or_ge (r.off + o) arr.size with hlt | hge
          · exact hlt
          · rw [Array.getElem?_eq_none hge] at g; cases g
        have := hk.fz
        simp only [World.frozen?, hh, Bool.and_eq_false_iff, decide_eq_false_iff_not]
        omega

theorem store_atomic {P : Program} {W' : World} {a : Addr} {v u : Value} (hv : v.oneCell' = true) (hc : W.cell? a = some u) (h : (storeCells a [v] 0).run P W = .ok () W') : (store a v .atomic).run P W = .ok () W' := by
  have h0 : a.add 0 = a := by unfold Addr.add; simp
  simp only [storeCells, h0, Sem.run_bind, run_store P W a v .plain hv, hc] at h
  rw [run_store P W a v .atomic hv, hc]
  simp only
  split at h
  · cases h
  · rename_i hfz
    rw [if_neg hfz]
    simpa using h

theorem loadT_eq (t : Extern.Atomic.T) (addr : Value) : Extern.Atomic.loadT t #[addr] = (do Extern.Atomic.read t (← asAddr addr)) := rfl
theorem casT_eq (t : Extern.Atomic.T) (addr old new : Value) : Extern.Atomic.casT t #[addr, old, new] = (do
    let a ← asAddr addr
    if ← Extern.Atomic.touchesFrozen a then unsupported (.unsafePointer "a write to bytes that a string shares")
    let eq ← match t, ← Extern.Atomic.read t a, old with
      | _, .int _ x, .int _ y => pure (x == y)
      | .ptr, .pointer x, .pointer y => samePointer x y
      | .int _, .pointer (some _), .int _ 0 | .int _, .int _ 0, .pointer (some _) => pure false
      | .int _, .pointer (some _), _ | .int _, _, .pointer (some _) => unsupported .addressObserved
      | _, _, _ => stuck "atomic.CompareAndSwap: old is no T"
    if eq then store a new .atomic
    pure (.bool eq)) := rfl

/-- Functions without a body. -/
theorem aext_sound {f : FuncId} {fn : Func} {args : List Value} {args' : Array Value} {v : Value} {M' : Mem} (hf : tb.P.funcs[f]? = some fn) (hb : fn.body = none) (hn : fn.name ≠ "runtime.NumGoroutine") (h : aext fn args M = some (v, M'))
    (hM : MemR μ M W) (ha : All2 (VR μ) args args'.toList) : ∃ v' μ' W', (callFunc f args').run tb.P W = .ok (.value v') W' ∧ VR μ' v v' ∧ MemR μ' M' W' ∧ Ext μ M W μ' M' W' := by
  unfold aext at h
  obtain ⟨ho, h2⟩ := bif_some h
  clear h
  have ho : fn.origin = "" := by simpa using ho
  have hname : (fn.name == "runtime.NumGoroutine") = false := by simpa using hn
  have hbn : fn.body.isNone = true := by rw [hb]; rfl
  cases hc : (fn.name == "internal/bytealg.IndexByteString") with
  | true =>
    rw [hc] at h2
    simp only [cond_true] at h2
    have hnm : fn.name = "internal/bytealg.IndexByteString" := by simpa using hc
    have e1 : Extern.findNext fn = none := by
      obtain ⟨x1⟩ := fn
      simp only at ho hnm
      subst ho hnm
      kernel_rfl
    have e2 : Extern.find fn = some Extern.BytealgIndexByte.indexByte := by
      obtain ⟨x1⟩ := fn
      simp only at ho hnm
      subst ho hnm
      kernel_rfl
    split at h2
    · rename_i s c
      cases h2
      obtain ⟨l'⟩ := args'
      cases ha with
      | cons g1 g2 =>
        cases g2 with
        | cons g3 g4 =>
          cases g4
          cases g1
          cases g3
          refine ⟨_, μ, W, ?_, .int _ _, hM, Ext.rfl⟩
          rw [run_callFunc_extern hf hname hbn e1 e2, run_indexByte_string]
          rfl
    · cases h2
  | false =>
    rw [hc] at h2
    simp only [cond_false] at h2
    cases hc2 : (fn.name == "internal/abi.NoEscape") with
    | true =>
      rw [hc2] at h2
      simp only [cond_true] at h2
      have hnm : fn.name = "internal/abi.NoEscape" := by simpa using hc2
      have e1 : Extern.findNext fn = none := by
        obtain ⟨x1⟩ := fn
        simp only at ho hnm
        subst ho hnm
        kernel_rfl
      have e2 : Extern.find fn = some Extern.AbiNoEscape.same := by
        obtain ⟨x1⟩ := fn
        simp only at ho hnm
        subst ho hnm
        kernel_rfl
      split at h2
      · rename_i x
        cases h2
        obtain ⟨l'⟩ := args'
        cases ha with
        | cons g1 g2 =>
          cases g2
          refine ⟨_, μ, W, ?_, g1, hM, Ext.rfl⟩
          rw [run_callFunc_extern hf hname hbn e1 e2]
          rfl
      · cases h2
    | false =>
      rw [hc2] at h2
      simp only [cond_false] at h2
      cases hc3 : (fn.name == "sync/atomic.LoadInt64") with
      | true =>
        rw [hc3] at h2
        simp only [cond_true] at h2
        have hnm : fn.name = "sync/atomic.LoadInt64" := by simpa using hc3
        have e1 : Extern.findNext fn = none := by
          obtain ⟨x1⟩ := fn
          simp only at ho hnm
          subst ho hnm
          kernel_rfl
        have e2 : Extern.find fn = some (Extern.Atomic.loadT (.int .i64)) := by
          obtain ⟨x1⟩ := fn
          simp only at ho hnm
          subst ho hnm
          kernel_rfl
        split at h2
        · rename_i p
          split at h2
          · rename_i n hread
            cases h2
            obtain ⟨l'⟩ := args'
            cases ha with
            | cons g1 g2 =>
              cases g2
              obtain ⟨p', rfl, hA⟩ := AddrR.of_ptr g1
              obtain ⟨v', c1, c2, c3, c4⟩ := cell_facts (P := tb.P) hM hread hA
              cases c2
              refine ⟨_, μ, W, ?_, .int _ _, hM, Ext.rfl⟩
              rw [run_callFunc_extern hf hname hbn e1 e2]
              rw [loadT_eq]
              simp [Extern.Atomic.read, asAddr, c1]
          · cases h2
        · cases h2
      | false =>
        rw [hc3] at h2
        simp only [cond_false] at h2
        obtain ⟨hc4, h3⟩ := bif_some h2
        have hnm : fn.name = "sync/atomic.CompareAndSwapInt64" := by simpa using hc4
        have e1 : Extern.findNext fn = none := by
          obtain ⟨x1⟩ := fn
          simp only at ho hnm
          subst ho hnm
          kernel_rfl
        have e2 : Extern.find fn = some (Extern.Atomic.casT (.int .i64)) := by
          obtain ⟨x1⟩ := fn
          simp only at ho hnm
          subst ho hnm
          kernel_rfl
        split at h3
        · rename_i p x y
          split at h3
          · rename_i n hread
            obtain ⟨l'⟩ := args'
            cases ha with
            | cons g1 g2 =>
              cases g2 with
              | cons g3 g4 =>
                cases g4 with
                | cons g5 g6 =>
                  cases g6
                  cases g3
                  cases g5
                  obtain ⟨p', rfl, hA⟩ := AddrR.of_ptr g1
                  obtain ⟨v', c1, c2, c3, c4⟩ := cell_facts (P := tb.P) hM hread hA
                  cases c2
                  cases hnx : (n == x) with
                  | true =>
                    rw [hnx] at h3
                    simp only [cond_true] at h3
                    split at h3
                    · rename_i m' hw
                      cases h3
                      obtain ⟨W', w1, w2, w3⟩ := writeCells_sound (P := tb.P) hM hw (fun _ => hA) (.cons (.int _ _) .nil)
                      have w1 := store_atomic (v := .int .i64 y) rfl c1 w1
                      refine ⟨_, μ, W', ?_, .bool _, w2, w3⟩
                      rw [run_callFunc_extern hf hname hbn e1 e2]
                      rw [casT_eq]
                      simp [Extern.Atomic.touchesFrozen, Extern.Atomic.read, asAddr, c1, c3, c4, w1, show n = x by simpa using hnx]
                    · cases h3
                  | false =>
                    rw [hnx] at h3
                    simp only [cond_false] at h3
                    cases h3
                    refine ⟨_, μ, W, ?_, .bool _, hM, Ext.rfl⟩
                    rw [run_callFunc_extern hf hname hbn e1 e2]
                    rw [casT_eq]
                    simp [Extern.Atomic.touchesFrozen, Extern.Atomic.read, asAddr, c1, c3, c4, show ¬ n = x by simpa using hnx]
          · cases h3
        · cases h3

/-- A function is run. -/
theorem enter_body_sound (ht : TabOK tb) (hrun : RunSound tb run) {L : Nat} {f : FuncId} {args : List Value} {pan : Option Value} {out : Out} {M' : Mem} (h : enterBody tb run L f args pan M = some (out, M')) :
    FnOK tb f args pan M out M' ∧ (pan = none → out.recd = false) := by
  unfold enterBody at h
  cases hfn : tb.fn.get f with
  | none => rw [hfn] at h; cases h
  | some fn =>
    rw [hfn] at h
    simp only at h
    obtain ⟨hf, hname⟩ := ht.fn f fn hfn
    cases hb : fn.body with
    | none =>
      rw [hb] at h
      simp only at h
      split at h
      · split at h
        · rename_i v m hx
          cases h
          refine ⟨fun μ W args' hg hM ha => .inr ⟨rfl, ?_⟩, fun _ => rfl⟩
          obtain ⟨v', μ', W', h1, h2, h3, h4⟩ := aext_sound hf hb hname hx hM ha
          exact ⟨v, v', μ', W', rfl, h1, h2, h3, h4⟩
        · cases h
      · cases h
    | some c =>
      rw [hb] at h
      simp only at h
      split at h
      · cases h
      · rename_i ex st1 hc
        have key : ∀ mode, (match ex with | .normal | .ret => some none | .pan v => some (some v) | .exit _ => none) = some mode →
            ∀ (μ : Mu) (W : World) (args' : Array Value), Glob tb μ → MemR μ M W → All2 (VR μ) args args'.toList → ∀ kind cs, PanR μ pan kind cs →
              ∃ μ' W' fr, Ext μ M W μ' st1.nz.mem W' ∧ MemR μ' st1.nz.mem W' ∧ Steps tb.P (lone (Frame.enter tb.P f args' kind) cs W) (lone fr (afterRec (recd pan st1.nz.pan) cs) W') ∧
                fr.fn = f ∧ fr.kind = kind ∧ All2 (DefR μ') st1.nz.defs fr.defers ∧ ModeR μ' mode fr.mode ∧ TmpsR μ' st1.nt st1.tmps fr.tmps ∧ (st1.nz.pan.isSome = true → pan.isSome = true) := by
          intro mode hmode μ W args' hg hM ha kind cs hpan
          have hfr : Frame.enter tb.P f args' kind = mk (Frame.enter tb.P f args' kind) { tmps := args' ++ Array.replicate (fn.ntmps - args'.size) undef, defers := [] } [.code c] := by
            simp [Frame.enter, mk, hf, hb]
          have hG := acode_sound (b := Frame.enter tb.P f args' kind) (rd := none) ht hrun (fn := f) rfl c _ st1 ex { tmps := args' ++ Array.replicate (fn.ntmps - args'.size) undef, defers := [] } μ W cs [] hc hg
            ⟨hM, tmps_enter ha _, .nil⟩ hpan trivial
          rw [← hfr] at hG
          obtain ⟨μ', W', a', e1, e2, e3, e4, e5, e6⟩ := hG
          cases ex with
          | normal =>
            cases hmode
            exact ⟨μ', W', { mk (Frame.enter tb.P f args' kind) a' [] with mode := .returning }, e1, e2.mem, Steps.trans e6 (.one (st_end rfl)), rfl, rfl, e2.defs, rfl, e2.tmps, e4⟩
          | ret =>
            cases hmode
            obtain ⟨k1, e6⟩ := e6
            exact ⟨μ', W', { mk (Frame.enter tb.P f args' kind) a' (.code .ret :: k1) with mode := .returning }, e1, e2.mem, Steps.trans e6 (.one (st_ret rfl)), rfl, rfl, e2.defs, rfl, e2.tmps, e4⟩
          | pan v =>
            cases hmode
            obtain ⟨v', todo, e6, e7⟩ := e6
            exact ⟨μ', W', { mk (Frame.enter tb.P f args' kind) a' todo with mode := .panicking [{ v := v', recovered := false }] }, e1, e2.mem, e7, rfl, rfl, e2.defs, ⟨v', e6, rfl⟩, e2.tmps, e4⟩
          | exit id => cases hmode
        split at h
        · cases h
        · rename_i mode hmode
          have key := key mode hmode
          split at h
          · cases h
          · -- it returns
            rename_i m hun
            split at h
            · rename_i v hres
              cases h
              refine ⟨fun μ W args' hg hM ha => .inl ⟨fn, c, hf, hb, hname, fun kind cs hpan => ?_⟩, fun hp => by rw [hp]; rfl⟩
              obtain ⟨μ1, W1, fr, e1, e2, e3, e4, e5, e6, e7, e8, e9⟩ := key μ W args' hg hM ha kind cs hpan
              obtain ⟨μ2, W2, mode2, g1, g2, g3, g4⟩ := unwind_sound hrun _ _ _ _ _ _ hun μ1 W1 fr (afterRec (recd pan st1.nz.pan) cs) (hg.mono tb e1.le) e2 e6 e7
              obtain ⟨v', r1, r2⟩ := results_sound ht g2 (e8.mono g1.le) hres
              exact ⟨μ2, W2, { fr with defers := [], mode := mode2 }, e1.trans g1, g2, e3.trans g4, e4, e5, rfl, g3, v', r1, r2⟩
            · cases h
          · rename_i v m hun
            split at h
            · cases h
              refine ⟨fun μ W args' hg hM ha => .inl ⟨fn, c, hf, hb, hname, fun kind cs hpan => ?_⟩, fun _ => rfl⟩
              obtain ⟨μ1, W1, fr, e1, e2, e3, e4, e5, e6, e7, e8, e9⟩ := key μ W args' hg hM ha kind cs hpan
              obtain ⟨μ2, W2, mode2, g1, g2, g3, g4⟩ := unwind_sound hrun _ _ _ _ _ _ hun μ1 W1 fr _ (hg.mono tb e1.le) e2 e6 e7
              obtain ⟨v', r1, r2⟩ := g3
              exact ⟨μ2, W2, { fr with defers := [], mode := mode2 }, e1.trans g1, g2, e3.trans g4, e4, e5, rfl, v', r2, r1⟩
            · cases h

/-- What is known of functions is so. -/
def SumsOK (tb : Tab) : Prop := ∀ f args M v M', tb.sm f args M = some (v, M') → FnOK tb f args none M (.ret v false) M'

theorem enter_fn_sound (ht : TabOK tb) (hs : SumsOK tb) (hrun : RunSound tb run) {L : Nat} {f : FuncId} {args : List Value} {pan : Option Value} {out : Out} {M' : Mem} (h : enterFn tb run L f args pan M = some (out, M')) :
    FnOK tb f args pan M out M' ∧ (pan = none → out.recd = false) := by
  unfold enterFn at h
  cases pan with
  | some v => exact enter_body_sound ht hrun h
  | none =>
    simp only at h
    split at h
    · rename_i v m hx
      cases h
      exact ⟨hs _ _ _ _ _ hx, fun _ => rfl⟩
    · exact enter_body_sound ht hrun h

end
end Go.Ab
