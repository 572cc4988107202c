import Derived.Test.YtjjlhemenokdhaaGreatAbRegion
namespace Go.Ab

section
variable {P : Program} {b : Frame} {a : Act} {k : List Item} {cs : List Frame} {w w1 w' : World} {f : Operand} {params : Array Tmp} {assign body : Code} {l : Nat} {mark : List Deferred}

/-- The call that a range over a function is. -/
def rangeCall (ρ : Operand → Value) (f : Operand) (l : Nat) : Sem Next := do
  let d ← resolve ρ { callee := .value f, args := #[.const (.func (.yield l) #[] #[])], argTypes := #[] } 0
  invoke d.target d.args

def rangeFrame (b : Frame) (a : Act) (mark : List Deferred) (l : Nat) (k : List Item) : Frame := mk b { a with defers := mark ++ a.defers } (.inRangeFunc l :: k)

theorem stepG_range (he : (Instr.enterLoop b.fn a.tmps params assign body b.roundOf).run P w = .ok (l, mark) w1) :
    (stepG P true { frame := mk b a (.code (.rangeFunc f params assign body) :: k), callers := cs, status := .running, dying := none } w).bare =
      (stepG.apply P true (rangeFrame b a mark l k) cs none (rangeCall a.eval f l) w1).bare := by
  have hev := mk_eval b { a with defers := mark ++ a.defers } (.inRangeFunc l :: k)
  simp only [mk] at hev
  simp only [stepG, stepG.exec, mk, Sem.runT_eq, he, GStep.bare_after, rangeFrame, rangeCall, hev]
  rfl

theorem st_range_value (he : (Instr.enterLoop b.fn a.tmps params assign body b.roundOf).run P w = .ok (l, mark) w1) {v : Value} (hr : (rangeCall a.eval f l).run P w1 = .ok (.value v) w') :
    step P (lone (mk b a (.code (.rangeFunc f params assign body) :: k)) cs w) = .next (lone (mk b { a with defers := mark ++ a.defers } (.endRangeFunc l :: k)) cs w') :=
  step_lone_go (by rw [stepG_range he]; simp [stepG.apply, hr, rangeFrame, mk, Frame.finish])

theorem st_range_enter (he : (Instr.enterLoop b.fn a.tmps params assign body b.roundOf).run P w = .ok (l, mark) w1) {g : FuncId} {args : Array Value} (hr : (rangeCall a.eval f l).run P w1 = .ok (.enter g args) w') :
    step P (lone (mk b a (.code (.rangeFunc f params assign body) :: k)) cs w) = .next (lone (Frame.enter P g args .normal) (rangeFrame b a mark l k :: cs) w') :=
  step_lone_go (by rw [stepG_range he]; simp [stepG.apply, hr, rangeFrame, mk])

theorem st_range_round (he : (Instr.enterLoop b.fn a.tmps params assign body b.roundOf).run P w = .ok (l, mark) w1) {g : FuncId} {l2 : Nat} {tmps : Array Value} {as bd : Code} (hr : (rangeCall a.eval f l).run P w1 = .ok (.round l2 g tmps as bd) w') :
    step P (lone (mk b a (.code (.rangeFunc f params assign body) :: k)) cs w) = .next (lone (Frame.round l2 g tmps as bd .normal) (rangeFrame b a mark l k :: cs) w') :=
  step_lone_go (by rw [stepG_range he]; simp [stepG.apply, hr, rangeFrame, mk])

theorem st_endRange {jump : Option Code} (hr : (Instr.endLoop l).run P w = .ok jump w') :
    step P (lone (mk b a (.endRangeFunc l :: k)) cs w) = .next (lone (mk b a ((jump.map Item.code).toList ++ k)) cs w') :=
  step_lone_go (by simp [stepG, stepG.exec, mk, hr])

end

section
variable {tb : Tab} {μ : Mu} {W : World} {st st' : St} {a : Act} {b : Frame} {cs : List Frame} {ops : Array Oper} {k : List Item} {rd : Option Nat} {run : Runner} {M : Mem}

/-- A new object. -/
theorem new_sound (hM : MemR μ M W) {o' : Obj} {x : Blk} (P : Program) (hx : ∀ μ' W', μ.le μ' → W'.heap[W.heap.size]? = some o' → BlkR μ' W' ⟨W.heap.size, 0, 0, 0⟩ x) :
    ∃ μ' W', Ext μ M W μ' (newBlk M x).2 W' ∧ MemR μ' (newBlk M x).2 W' ∧ μ' M.next = some ⟨W.heap.size, 0, 0, 0⟩ ∧ (newObj o').run P W = .ok W.heap.size W' := by
  have hw : ({ W with heap := W.heap.push o' } : World).heap = W.heap.push o' := rfl
  obtain ⟨p1, p2⟩ := push_old hw
  exact ⟨μ.upd M.next ⟨W.heap.size, 0, 0, 0⟩, { W with heap := W.heap.push o' }, Ext.newBlock hM rfl p1 p2 ⟨rfl, rfl, rfl⟩,
    (hM.ghost x).place (by rw [getBlk_new, if_pos rfl]) hM.fresh rfl p1 p2 (hx _ _ (Mu.upd_le hM.fresh) (by simp)), Mu.upd_same, rfl⟩

theorem getLoop_run {P : Program} {l : Nat} {r : Loop} (h : W.heap[l]? = some (.loop r)) : (Instr.getLoop l).run P W = .ok r W := by
  simp only [Instr.getLoop, Sem.run_bind, getObj_run h (by simp), Result.andThen_ok, Sem.run_pure]

theorem enter_sound (hS : StR μ W st a) (hro : RoundR μ rd b.roundOf) {fn : FuncId} {params : Array Tmp} {assign body : Code} {l : Nat} {z : Nz} (P : Program) (h : enter? rd fn params assign body st = some (l, z)) :
    ∃ μ' W' r mark, Ext μ st.nz.mem W μ' z.mem W' ∧ StR μ' W' { st with nz := z } { a with defers := mark ++ a.defers } ∧ μ' l = some r ∧
      (Instr.enterLoop fn a.tmps params assign body b.roundOf).run P W = .ok (r.blk, mark) W' ∧ z.pan = st.nz.pan := by
  unfold enter? at h
  cases rd with
  | some l0 =>
    simp only at h
    cases hb : getBlk st.nz.mem l0 with
    | none => rw [hb] at h; cases h
    | some x =>
      rw [hb] at h
      cases x with
      | loop state pending fn' nt tmps ps as bd d =>
        cases h
        cases hr : b.roundOf with
        | none => rw [hr] at hro; exact hro.elim
        | some l1 =>
          rw [hr] at hro
          obtain ⟨r0, h1, rfl⟩ := hro
          have hbk := hS.mem.blk _ _ _ hb h1
          cases hbk with
          | @loop _ _ _ _ _ _ _ _ _ rd tmps' hh hd ht =>
            obtain ⟨μ', W', e1, e2, e3, e4⟩ := new_sound hS.mem P (o' := .loop { state := .ready, pending := none, fn, tmps := a.tmps, params, assign, body, defers := rd.blk })
              (x := .loop .ready none fn st.nt st.tmps params assign body d) (fun μ' W' hle hW => .loop hW (hle _ _ hd) (hS.tmps.mono hle))
            refine ⟨μ', W', _, [], e1, ⟨e2, hS.tmps.mono e1.le, all2_defs hS.defs e1.le⟩, e3, ?_, rfl⟩
            simp only [Instr.enterLoop, Sem.run_bind, getLoop_run hh, Result.andThen_ok, Sem.run_pure, e4]
      | _ => cases h
  | none =>
    simp only at h
    cases h
    cases hr : b.roundOf with
    | some l1 => rw [hr] at hro; exact hro.elim
    | none =>
      obtain ⟨μ1, W1, e1, e2, e3, e4⟩ := new_sound hS.mem P (o' := .deferred (some [])) (x := .obj (.deferred (some []))) (fun μ' W' hle hW => .obj hW rfl (.defSome .nil))
      obtain ⟨μ2, W2, g1, g2, g3, g4⟩ := new_sound e2 P (o' := .loop { state := .ready, pending := none, fn, tmps := a.tmps, params, assign, body, defers := W.heap.size })
        (x := .loop .ready none fn st.nt st.tmps params assign body st.nz.mem.next) (fun μ' W' hle hW => .loop (rd := ⟨W.heap.size, 0, 0, 0⟩) hW (hle _ _ e3) (hS.tmps.mono (e1.le.trans hle)))
      have hle : μ.le μ2 := e1.le.trans g1.le
      refine ⟨μ2, W2, _, [{ target := .collected W.heap.size, args := #[] }], e1.trans g1, ⟨g2, hS.tmps.mono hle, .cons ⟨.collected (r := ⟨W.heap.size, 0, 0, 0⟩) (g1.le _ _ e3), by simpa using All2.nil⟩ (all2_defs hS.defs hle)⟩, g3, ?_, rfl⟩
      simp only [Instr.enterLoop, Sem.run_bind, Result.andThen_ok, Sem.run_pure, e4, g4]

theorem endLoop_sound (hS : StR μ W st a) {l : Nat} {r : Ref} (hl : μ l = some r) {ex : Ex} (P : Program) (h : endLoop? l st = some (ex, st')) :
    ∃ W' jump, Ext μ st.nz.mem W μ st'.nz.mem W' ∧ StR μ W' st' a ∧ (Instr.endLoop r.blk).run P W = .ok jump W' ∧ st'.nz.pan = st.nz.pan ∧ st'.nt = st.nt ∧
      ((ex = .normal ∧ jump = none) ∨ (ex = .ret ∧ jump = some .ret) ∨ ∃ id, ex = .exit id ∧ jump = some (.exit id)) := by
  unfold endLoop? at h
  cases hb : getBlk st.nz.mem l with
  | none => rw [hb] at h; cases h
  | some x =>
    rw [hb] at h
    cases x with
    | loop state pending fn' nt tmps ps as bd d =>
      have hbk := hS.mem.blk _ _ _ hb hl
      cases hbk with
      | @loop _ _ _ _ _ _ _ _ _ rd tmps' hh hd ht =>
        obtain ⟨W', r1, r2, r3⟩ := obj_update (P := P) (o2 := .loop { state := .exhausted, pending, fn := fn', tmps := tmps', params := ps, assign := as, body := bd, defers := rd.blk }) hS.mem hb rfl rfl hl hh (by simp)
          (x' := .loop .exhausted pending fn' nt tmps ps as bd d) (fun W' hW => .loop hW hd ht)
        have hS' : StR μ W' { st with nz := { st.nz with mem := setBlk st.nz.mem l (.loop .exhausted pending fn' nt tmps ps as bd d) } } a := ⟨r2, hS.tmps, hS.defs⟩
        have hrun : state ≠ .busy → (Instr.endLoop r.blk).run P W = .ok pending W' := by
          intro hne
          have hbeq : (state == LoopState.busy) = false := by
            cases state <;> first | rfl | exact absurd rfl hne
          simp only [Instr.endLoop, Sem.run_bind, getLoop_run hh, Result.andThen_ok, hbeq]
          simp [r1]
        cases state with
        | busy => cases h
        | _ =>
          simp only at h
          cases pending with
          | none => cases h; exact ⟨W', _, r3, hS', hrun (by simp), rfl, rfl, .inl ⟨rfl, rfl⟩⟩
          | some c =>
            cases c with
            | ret => cases h; exact ⟨W', _, r3, hS', hrun (by simp), rfl, rfl, .inr (.inl ⟨rfl, rfl⟩)⟩
            | exit id => cases h; exact ⟨W', _, r3, hS', hrun (by simp), rfl, rfl, .inr (.inr ⟨id, rfl, rfl⟩)⟩
            | _ => cases h
    | _ => cases h

end
end Go.Ab
