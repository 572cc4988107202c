import Derived.Test.YtjjlhemenokdhaaGreatAbRun
namespace Go.Ab

def RoundR (μ : Mu) (rd ro : Option Nat) : Prop :=
  match rd, ro with
  | none, none => True
  | some l, some l' => ∃ r, μ l = some r ∧ r.blk = l'
  | _, _ => False

theorem RoundR.mono {μ ν : Mu} {rd ro : Option Nat} (h : RoundR μ rd ro) (hm : μ.le ν) : RoundR ν rd ro := by
  cases rd <;> cases ro <;> first | exact h | (obtain ⟨r, h1, h2⟩ := h; exact ⟨r, hm _ _ h1, h2⟩)

section
variable {tb : Tab} {μ : Mu} {W : World} {M : Mem} {run : Runner}

theorem all2_defs {ν : Mu} {l l' : List Deferred} (h : All2 (DefR μ) l l') (hm : μ.le ν) : All2 (DefR ν) l l' := h.mono fun _ _ h => h.mono hm

theorem put_defers (a : Act) (dst : Option Tmp) (v : Value) : ({ a with defers := a.defers } : Act).put dst v = a.put dst v := rfl

/-- What an operation does to a frame at work. -/
def OpGoes (tb : Tab) (μ : Mu) (W : World) (st : St) (b : Frame) (a : Act) (cs : List Frame) (ops : Array Oper) (i : Nat) (rest : List Nat) (k : List Item) (dst : Option Tmp) (out : OOut) (nz' : Nz) : Prop :=
  ∃ μ' W' defs', Ext μ st.nz.mem W μ' nz'.mem W' ∧ MemR μ' nz'.mem W' ∧ PanR μ' nz'.pan b.kind (afterRec (recd st.nz.pan nz'.pan) cs) ∧ All2 (DefR μ') nz'.defs defs' ∧ (nz'.pan.isSome = true → st.nz.pan.isSome = true) ∧
    match out with
    | .val v => ∃ v', VR μ' v v' ∧ Steps tb.P (lone (mk b a (.inRegion ops (i :: rest) :: k)) cs W)
        (lone (mk b (({ a with defers := defs' } : Act).put dst v') (.inRegion ops rest :: k)) (afterRec (recd st.nz.pan nz'.pan) cs) W')
    | .pan v => ∃ v' todo, VR μ' v v' ∧ Steps tb.P (lone (mk b a (.inRegion ops (i :: rest) :: k)) cs W)
        (lone { mk b { a with defers := defs' } todo with mode := .panicking [{ v := v', recovered := false }] } (afterRec (recd st.nz.pan nz'.pan) cs) W')

theorem afterRec_same {p : Option Value} (cs : List Frame) : afterRec (recd p p) cs = cs := by
  cases p <;> simp [recd, afterRec]

theorem callFunc_enter {P : Program} {f : FuncId} {fn : Func} {c : Code} (hf : P.funcs[f]? = some fn) (hb : fn.body = some c) (hn : fn.name ≠ "runtime.NumGoroutine") (args : Array Value) (w : World) :
    (callFunc f args).run P w = .ok (.enter f args) w := by
  simp [callFunc, hf, hb, hn]

variable {b : Frame} {a : Act} {cs : List Frame} {ops : Array Oper} {i : Nat} {rest : List Nat} {k : List Item} {o : Oper} {st : St} {rd : Option Nat}

theorem mk_raise (ops : Array Oper) (l : List Nat) (chain : List PanicEntry) : (mk b a (.inRegion ops l :: k)).raise chain = { mk b a (.inRegion ops l :: k) with mode := .panicking chain } := rfl

theorem InvR.congr {t : Tgt} {s s' : Sem Next} (h : InvR tb μ t s) (hs : ∀ w, s'.run tb.P w = s.run tb.P w) : InvR tb μ t s' := by
  cases t with
  | dfn f args p => exact h.elim
  | fn f args => obtain ⟨args', h1, h2⟩ := h; exact ⟨args', h1, fun w => (hs w).trans (h2 w)⟩
  | round l args => obtain ⟨r, args', h1, h2, h3⟩ := h; exact ⟨r, args', h1, h2, fun w => (hs w).trans (h3 w)⟩

/-- A call. -/
theorem call_goes (hrun : RunSound tb run) (hg : Glob tb μ) (hM : MemR μ st.nz.mem W) (hd : All2 (DefR μ) st.nz.defs a.defers) (hpan : PanR μ st.nz.pan b.kind cs) (ho : ops[i]? = some o)
    (hw : Region.wanted o (yielded ops a.tmps) = true) (hdf : ∀ c, o.op ≠ .defer c) {t : Tgt} (hinv : InvR tb μ t (execOp a.eval o)) {out : Out} {M' : Mem} (hr : run t st.nz.mem = some (out, M')) :
    OpGoes tb μ W st b a cs ops i rest k o.dst (match out with | .ret v _ => .val v | .pan v => .pan v) { st.nz with mem := M' } := by
  have hfin : ∀ v, (mk b a (.inRegion ops (i :: rest) :: k)).finish v = mk b (a.put o.dst v) (.inRegion ops rest :: k) := by
    intro v
    have hf := mk_finish (b := b) (a := a) (k := k) ops i rest v
    rw [ho] at hf
    exact hf
  cases t with
  | dfn f args p => exact hinv.elim
  | fn f args =>
    obtain ⟨args', ha, hs⟩ := hinv
    have hrec := hrun.norec _ _ _ _ _ hr
    rcases hrun.fn _ _ _ _ _ hr μ W args' hg hM ha with ⟨fn, c, hf, hb, hn, hgo⟩ | ⟨_, v, v', μ', W', rfl, h1, h2, h3, h4⟩
    · obtain ⟨μ', W', fr, h1, h2, h3, h4, h5, h6, h7⟩ := hgo .normal (mk b a (.inRegion ops (i :: rest) :: k) :: cs) (PanR.normal _ _)
      have henter := st_enter (P := tb.P) (b := b) (a := a) (k := k) (cs := cs) (rest := rest) ho hw (.inr hdf) ((hs W).trans (callFunc_enter hf hb hn args' W))
      rw [hrec] at h3
      refine ⟨μ', W', a.defers, h1, h2, ?_, all2_defs hd h1.le, id, ?_⟩
      · rw [afterRec_same]; exact hpan.mono h1.le
      · rw [show recd st.nz.pan ({ st.nz with mem := M' } : Nz).pan = recd st.nz.pan st.nz.pan from rfl, afterRec_same]
        cases out with
        | ret v r =>
          obtain ⟨g1, v', g2, g3⟩ := h7
          refine ⟨v', g3, .head henter (h3.trans (.one ?_))⟩
          have := step_leave_returned (P := tb.P) (fr := fr) (c := mk b a (.inRegion ops (i :: rest) :: k)) (cs := cs) (w := W') (v := v') ⟨g1, h6, h5, fn, by rw [h4]; exact hf, g2⟩
          rw [hfin] at this
          exact this
        | pan v =>
          obtain ⟨v', g1, g2⟩ := h7
          refine ⟨v', .inRegion ops (i :: rest) :: k, g2, .head henter (h3.trans (.one ?_))⟩
          have := step_leave_panicked (P := tb.P) (fr := fr) (c := mk b a (.inRegion ops (i :: rest) :: k)) (cs := cs) (w := W') (chain := [{ v := v', recovered := false }]) ⟨g1, h6, fn, by rw [h4]; exact hf⟩
          rw [mk_raise] at this
          exact this
    · refine ⟨μ', W', a.defers, h4, h3, ?_, all2_defs hd h4.le, id, v', h2, ?_⟩
      · rw [afterRec_same]; exact hpan.mono h4.le
      · rw [show recd st.nz.pan ({ st.nz with mem := M' } : Nz).pan = recd st.nz.pan st.nz.pan from rfl, afterRec_same]
        exact .one (st_value ho hw (.inr hdf) ((hs W).trans h1))
  | round l args =>
    obtain ⟨r, args', ha, hl, hs⟩ := hinv
    obtain ⟨v, f, tmps, as, bd, rfl, h1, hgo⟩ := hrun.round _ _ _ _ _ hr μ W args' r hg hM ha hl
    obtain ⟨μ', W', v', g1, g2, g3, g4⟩ := hgo (mk b a (.inRegion ops (i :: rest) :: k)) cs
    have hround := st_round (P := tb.P) (b := b) (a := a) (k := k) (cs := cs) (rest := rest) ho hw (.inr hdf) ((hs W).trans h1)
    refine ⟨μ', W', a.defers, g1, g2, ?_, all2_defs hd g1.le, id, v', g3, ?_⟩
    · rw [afterRec_same]; exact hpan.mono g1.le
    · rw [show recd st.nz.pan ({ st.nz with mem := M' } : Nz).pan = recd st.nz.pan st.nz.pan from rfl, afterRec_same]
      rw [hfin] at g4
      exact .head hround g4

/-- An operation whose result the executor has. -/
theorem val_goes (hd : All2 (DefR μ) st.nz.defs a.defers) (hpan : PanR μ st.nz.pan b.kind cs) (ho : ops[i]? = some o)
    (hw : Region.wanted o (yielded ops a.tmps) = true) (hdf : ∀ c, o.op ≠ .defer c) {v : Value} {M' : Mem} (h : OpDoes tb μ st.nz.mem W (execOp a.eval o) v M') :
    OpGoes tb μ W st b a cs ops i rest k o.dst (.val v) { st.nz with mem := M' } := by
  obtain ⟨W', n, v', μ', h1, h2, h3, h4, h5⟩ := h
  refine ⟨μ', W', a.defers, h5, h4, ?_, all2_defs hd h5.le, id, v', h3, ?_⟩
  · rw [afterRec_same]; exact hpan.mono h5.le
  · rw [show recd st.nz.pan ({ st.nz with mem := M' } : Nz).pan = recd st.nz.pan st.nz.pan from rfl, afterRec_same]
    rcases h2 with rfl | ⟨rfl, rfl⟩
    · exact .one (st_value ho hw (.inr hdf) h1)
    · exact .one (st_nothing ho hw (.inr hdf) h1)

theorem op_sound (ht : TabOK tb) (hrun : RunSound tb run) {c : Nat} {out : OOut} {nz' : Nz} {ρ : Operand → Value} (h : aoper tb run rd ρ o st.nz = some (c, out, nz')) (hg : Glob tb μ) (hM : MemR μ st.nz.mem W) (hρ : ∀ x, VR μ (ρ x) (a.eval x))
    (hd : All2 (DefR μ) st.nz.defs a.defers) (hpan : PanR μ st.nz.pan b.kind cs) (hro : RoundR μ rd b.roundOf) (ho : ops[i]? = some o) (hw : Region.wanted o (yielded ops a.tmps) = true) :
    OpGoes tb μ W st b a cs ops i rest k o.dst out nz' := by
  rw [aoper_eq] at h
  unfold aoperS at h
  cases h1 : apure tb ρ o with
  | some v =>
    rw [h1] at h
    cases h
    obtain ⟨v', r1, r2⟩ := apure_sound ht hρ h1 W
    exact val_goes hd hpan ho hw (by intro c e; obtain ⟨dst, op, ty, pos, after, guard⟩ := o; simp only at e; subst e; cases h1) ⟨W, _, v', μ, r1, .inl rfl, r2, hM, Ext.rfl⟩
  | none =>
  rw [h1] at h
  simp only at h
  cases h2 : aread tb ρ o st.nz.mem with
  | some v =>
    rw [h2] at h
    cases h
    obtain ⟨v', r1, r2⟩ := aread_sound ht hM.toReadR hρ h2
    exact val_goes hd hpan ho hw (by intro c e; obtain ⟨dst, op, ty, pos, after, guard⟩ := o; simp only at e; subst e; cases h2) ⟨W, _, v', μ, r1, .inl rfl, r2, hM, Ext.rfl⟩
  | none =>
  rw [h2] at h
  simp only at h
  cases h3 : makes? tb ρ o with
  | some q =>
    obtain ⟨x, f⟩ := q
    rw [h3] at h
    cases h
    obtain ⟨W', v', μ', r1, r2, r3, r4⟩ := (makes_sound ht hρ h3 W).next hM
    exact val_goes hd hpan ho hw (by intro c e; obtain ⟨dst, op, ty, pos, after, guard⟩ := o; simp only at e; subst e; cases h3) ⟨W', _, v', μ', r1, .inl rfl, r2, r3, r4⟩
  | none =>
  rw [h3] at h
  simp only at h
  cases h4 : amem tb ρ o st.nz.mem with
  | some q =>
    obtain ⟨v, m⟩ := q
    rw [h4] at h
    cases h
    exact val_goes hd hpan ho hw (by intro c e; obtain ⟨dst, op, ty, pos, after, guard⟩ := o; simp only at e; subst e; cases h4) (amem_sound ht hM hρ h4)
  | none =>
  rw [h4] at h
  simp only at h
  cases h5 : actl tb run rd ρ o st.nz with
  | none => rw [h5] at h; cases h
  | some q =>
  obtain ⟨out', z⟩ := q
  rw [h5] at h
  cases h
  clear h1 h2 h3 h4
  unfold actl at h5
  split at h5
  · -- defer
    rename_i c hop
    split at h5
    · rename_i f hc
      split at h5
      · rename_i fn first cap hf
        cases h5
        have hv := hρ f
        rw [hf] at hv
        generalize hu : a.eval f = u at hv
        cases hv with
        | @func _ f' _ x' _ y' hfn hs1 hs2 k1 k2 =>
          have hron : b.roundOf = none := by
            cases hb : b.roundOf with
            | none => rfl
            | some l => rw [hb] at hro; exact hro.elim
          have hex : (execOp a.eval o).run tb.P W = .ok (.defer { target := .fn f' y', args := x' ++ c.args.map a.eval }) W := by
            obtain ⟨dst, op, ty, pos, after, guard⟩ := o
            simp only at hop
            subst hop
            obtain ⟨callee, args, argTypes⟩ := c
            simp only at hc
            subst hc
            simp [execOp, resolve, hu, Deferred.ofValue]
          refine ⟨μ, W, { target := .fn f' y', args := x' ++ c.args.map a.eval } :: a.defers, Ext.rfl, hM, ?_, .cons ⟨.fn hfn (all2_of hs2 k2), ?_⟩ hd, id, undef, VR.undef, ?_⟩
          · rw [afterRec_same]; exact hpan
          · simp only [Array.toList_append, Array.toList_map]
            exact (all2_of hs1 k1).append (all2_args hρ _)
          · rw [show recd st.nz.pan st.nz.pan = recd st.nz.pan st.nz.pan from rfl, afterRec_same]
            exact .one (st_defer ho hw (.inl hron) hex)
      · cases h5
    · cases h5
  · -- panic
    rename_i x hop
    split at h5
    · rename_i t v hx
      cases h5
      have hv := hρ x
      rw [hx] at hv
      generalize hu : a.eval x = u at hv
      cases hv with
      | iface hv =>
        rename_i v'
        have hex : (execOp a.eval o).run tb.P W = .halt (.panic (.iface t v')) W := by
          obtain ⟨dst, op, ty, pos, after, guard⟩ := o
          simp only at hop
          subst hop
          simp [execOp, hu, Instr.panic]
        refine ⟨μ, W, a.defers, Ext.rfl, hM, ?_, hd, id, .iface t v', .inRegion ops (i :: rest) :: k, .iface hv, ?_⟩
        · rw [afterRec_same]; exact hpan
        · rw [afterRec_same]
          exact .one (st_panic ho hw (.inr (by intro c e; rw [e] at hop; cases hop)) hex)
    · cases h5
  · -- a call
    rename_i c hop
    have hdf : ∀ c', o.op ≠ .defer c' := by intro c' e; rw [e] at hop; cases hop
    split at h5
    · -- recover
      rename_i hc
      have hex : (execOp a.eval o).run tb.P W = .ok .recover W := by
        obtain ⟨dst, op, ty, pos, after, guard⟩ := o
        simp only at hop
        subst hop
        obtain ⟨callee, args, argTypes⟩ := c
        simp only at hc
        subst hc
        simp [execOp, resolve, invoke, builtin]
      split at h5
      · rename_i v hrd hp
        cases h5
        have hron : b.roundOf = none := by
          cases hb : b.roundOf with
          | none => rfl
          | some l => rw [hb] at hro; exact hro.elim
        rw [hp] at hpan
        obtain ⟨hk, cc, crest, v', rfl, hmode, hv⟩ := hpan
        have htr : tryRecover (mk b a (.inRegion ops (i :: rest) :: k)) (cc :: crest) = some (v', { cc with mode := .panicking [{ v := v', recovered := true }] } :: crest) := by
          simp [tryRecover, mk, hk, hmode]
        have hst := st_recover (P := tb.P) (b := b) (a := a) (k := k) (rest := rest) ho hw hron hex htr
        have haf : afterRec (recd st.nz.pan none) (cc :: crest) = { cc with mode := .panicking [{ v := v', recovered := true }] } :: crest := by
          rw [hp]; simp [recd, afterRec, recMode, hmode]
        refine ⟨μ, W, a.defers, Ext.rfl, hM, ?_, hd, by simp, v', hv, ?_⟩
        · rw [haf]
          intro fr hfk
          simp [tryRecover, hfk, hk]
        · rw [haf]; exact .one hst
      · rename_i hrd hp
        cases h5
        have hron : b.roundOf = none := by
          cases hb : b.roundOf with
          | none => rfl
          | some l => rw [hb] at hro; exact hro.elim
        have hpan' := hpan
        rw [hp] at hpan'
        have htr := hpan' (mk b a (.inRegion ops (i :: rest) :: k)) rfl
        have hst := st_recover (P := tb.P) (b := b) (a := a) (k := k) (rest := rest) ho hw hron hex htr
        refine ⟨μ, W, a.defers, Ext.rfl, hM, ?_, hd, id, .nilIface, .nilIface, ?_⟩
        · rw [afterRec_same]; exact hpan
        · rw [afterRec_same]; exact .one hst
      · cases h5
    · cases h5
    · rename_i callee hne1 hne2
      split at h5
      · rename_i t htg
        have hargs : All2 (VR μ) (c.args.toList.map ρ) (c.args.map a.eval).toList := by
          rw [Array.toList_map]; exact all2_args hρ _
        obtain ⟨t1, t2⟩ := target_sound ht hρ hargs htg
        have hinv : InvR tb μ t (execOp a.eval o) := by
          cases hcal : c.callee with
          | builtin bb => exact absurd hcal (hne2 bb)
          | value f =>
            refine (t1 f hcal).congr fun w => ?_
            obtain ⟨dst, op, ty, pos, after, guard⟩ := o
            simp only at hop
            subst hop
            obtain ⟨callee', args, argTypes⟩ := c
            simp only at hcal
            subst hcal
            rfl
          | invoke r n =>
            refine (t2 r n hcal).congr fun w => ?_
            obtain ⟨dst, op, ty, pos, after, guard⟩ := o
            simp only at hop
            subst hop
            obtain ⟨callee', args, argTypes⟩ := c
            simp only at hcal
            subst hcal
            have e1 : (#[a.eval r] ++ Array.map a.eval args)[0]? = some (a.eval r) := by
              rw [Array.getElem?_append_left (by simp)]
              rfl
            have e2 : (Array.map a.eval args).extract 0 args.size = Array.map a.eval args := by
              have : args.size = (Array.map a.eval args).size := by simp
              rw [this, Array.extract_size]
            simp [execOp, resolve, invoke, e1, e2]
        have hcg := fun out M' => call_goes (b := b) (k := k) (rest := rest) (cs := cs) (i := i) (out := out) (M' := M') hrun hg hM hd hpan ho hw hdf hinv
        split at h5
        · rename_i v r m hr
          cases h5
          exact hcg _ _ hr
        · rename_i v m hr
          cases h5
          exact hcg _ _ hr
        · cases h5
      · cases h5
  · cases h5

end
end Go.Ab
