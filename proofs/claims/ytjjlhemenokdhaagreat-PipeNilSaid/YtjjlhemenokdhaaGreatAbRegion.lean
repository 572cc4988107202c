import Derived.Test.YtjjlhemenokdhaaGreatAbOp
namespace Go.Ab

structure StR (μ : Mu) (W : World) (st : St) (a : Act) : Prop where
  mem : MemR μ st.nz.mem W
  tmps : TmpsR μ st.nt st.tmps a.tmps
  defs : All2 (DefR μ) st.nz.defs a.defers

section
variable {tb : Tab} {μ : Mu} {W : World} {st st' : St} {a : Act} {b : Frame} {cs : List Frame} {ops : Array Oper} {k : List Item} {rd : Option Nat} {run : Runner}

theorem wanted_sound' {tmps : T Value} {o : Oper} {x : Bool} (hT : ∀ j w g t, o.guard = some (j, w) → ops[j]? = some g → g.dst = some t → VR μ (match tmps.get t with | some v => v | none => undef) (a.tmps.getD t undef)) (h : wanted? ops tmps o = some x) : Region.wanted o (yielded ops a.tmps) = x := by
  unfold wanted? at h
  unfold Region.wanted
  cases hg : o.guard with
  | none => rw [hg] at h; cases h; rfl
  | some p =>
    obtain ⟨j, want⟩ := p
    rw [hg] at h
    simp only at h
    unfold yielded
    simp only
    cases ho : ops[j]? with
    | none => rw [ho] at h; cases h; rfl
    | some g =>
      rw [ho] at h
      simp only [Option.bind_some] at h ⊢
      cases hd : g.dst with
      | none => rw [hd] at h; cases h; rfl
      | some t =>
        rw [hd] at h
        simp only [Option.bind_some] at h ⊢
        have hat := hT j want g t hg ho hd
        have hgd : a.tmps.getD t undef = (a.tmps[t]?).getD undef := by simp
        rw [hgd] at hat
        have hund : VR μ undef ((a.tmps[t]?).getD undef) → x = false → ((match a.tmps[t]? with | some (.bool b) => some b | _ => none) == some want) = x := by
          intro hv hx
          subst hx
          cases hq : a.tmps[t]? with
          | none => rfl
          | some q =>
            rw [hq] at hv
            simp only [Option.getD_some, undef] at hv
            cases hv with
            | tuple => rfl
        split at h
        · rename_i bb hb
          rw [hb] at hat
          cases h
          cases hq : a.tmps[t]? with
          | none => rw [hq] at hat; simp only [Option.getD_none, undef] at hat; cases hat
          | some q =>
            rw [hq] at hat
            simp only [Option.getD_some] at hat
            cases hat with
            | bool => simp
        · rename_i y hb
          rw [hb] at hat
          cases h
          cases hq : a.tmps[t]? with
          | none => rfl
          | some q =>
            rw [hq] at hat
            simp only [Option.getD_some] at hat
            cases hat with
            | tuple => rfl
        · rename_i hb
          rw [hb] at hat
          cases h
          exact hund hat rfl
        · cases h

theorem wanted_sound {nt : Nat} {tmps : T Value} {o : Oper} {x : Bool} (hT : TmpsR μ nt tmps a.tmps) (h : wanted? ops tmps o = some x) : Region.wanted o (yielded ops a.tmps) = x :=
  wanted_sound' (fun _ _ _ t _ _ _ => hT.at_ t) h

theorem putDst_sound {nt : Nat} {t t' : T Value} {dst : Option Tmp} {v v' : Value} (hT : TmpsR μ nt t a.tmps) (h : putDst nt t dst v = some t') (hv : VR μ v v') : TmpsR μ nt t' (a.put dst v').tmps := by
  unfold putDst at h
  cases dst with
  | none => cases h; exact hT
  | some d =>
    obtain ⟨hlt, h2⟩ := bif_some h
    cases h2
    have hd : d < nt := lt_of_blt hlt
    refine ⟨by simp [Act.put, hT.size], fun i => ?_⟩
    rw [T.get_set]
    by_cases hi : i = d
    · subst hi
      have : i < a.tmps.size := by rw [hT.size]; exact hd
      simp [Act.put, this, hv]
    · have := hT.at_ i
      simpa [Act.put, hi, Array.getElem?_setIfInBounds, Ne.symm hi] using this

/-- From a state to a state; what F tells of where it ends. -/
def Goes (μ : Mu) (W : World) (st : St) (b : Frame) (cs : List Frame) (st' : St) (F : Mu → World → Act → List Frame → Prop) : Prop :=
  ∃ μ' W' a', Ext μ st.nz.mem W μ' st'.nz.mem W' ∧ StR μ' W' st' a' ∧ PanR μ' st'.nz.pan b.kind (afterRec (recd st.nz.pan st'.nz.pan) cs) ∧
    (st'.nz.pan.isSome = true → st.nz.pan.isSome = true) ∧ st'.nt = st.nt ∧ F μ' W' a' (afterRec (recd st.nz.pan st'.nz.pan) cs)

theorem Goes.trans {st1 : St} {F F2 : Mu → World → Act → List Frame → Prop} (h : Goes μ W st b cs st1 F)
    (k : ∀ μ1 W1 a1 cs1, μ.le μ1 → StR μ1 W1 st1 a1 → PanR μ1 st1.nz.pan b.kind cs1 → F μ1 W1 a1 cs1 → Goes μ1 W1 st1 b cs1 st' F2) : Goes μ W st b cs st' F2 := by
  obtain ⟨μ1, W1, a1, h1, h2, h3, h4, h5, h6⟩ := h
  obtain ⟨μ2, W2, a2, g1, g2, g3, g4, g5, g6⟩ := k μ1 W1 a1 _ h1.le h2 h3 h6
  rw [afterRec_trans h4 g4] at g3 g6
  exact ⟨μ2, W2, a2, h1.trans g1, g2, g3, fun h => h4 (g4 h), g5.trans h5, g6⟩

theorem Goes.here {F : Mu → World → Act → List Frame → Prop} (hS : StR μ W st a) (hpan : PanR μ st.nz.pan b.kind cs) (h : F μ W a cs) : Goes μ W st b cs st F :=
  ⟨μ, W, a, Ext.rfl, hS, by rw [afterRec_same]; exact hpan, id, rfl, by rw [afterRec_same]; exact h⟩

theorem Goes.mono {F F2 : Mu → World → Act → List Frame → Prop} (h : Goes μ W st b cs st' F) (k : ∀ μ1 W1 a1 cs1, F μ1 W1 a1 cs1 → F2 μ1 W1 a1 cs1) : Goes μ W st b cs st' F2 :=
  let ⟨μ1, W1, a1, h1, h2, h3, h4, h5, h6⟩ := h
  ⟨μ1, W1, a1, h1, h2, h3, h4, h5, k _ _ _ _ h6⟩

/-- Where code ends. -/
def Ends (P : Program) (m : Machine) (b : Frame) (k : List Item) (ex : Ex) (μ' : Mu) (W' : World) (a' : Act) (cs' : List Frame) : Prop :=
  match ex with
  | .normal => Steps P m (lone (mk b a' k) cs' W')
  | .exit id => ∃ k1, exitTo id k1 = exitTo id k ∧ Steps P m (lone (mk b a' (.code (.exit id) :: k1)) cs' W')
  | .ret => ∃ k1, Steps P m (lone (mk b a' (.code .ret :: k1)) cs' W')
  | .pan v => ∃ v' todo, VR μ' v v' ∧ Steps P m (lone { mk b a' todo with mode := .panicking [{ v := v', recovered := false }] } cs' W')

theorem Ends.head {P : Program} {m m1 : Machine} {ex : Ex} {a' : Act} (hs : Steps P m m1) (h : Ends P m1 b k ex μ W a' cs) : Ends P m b k ex μ W a' cs := by
  cases ex with
  | normal => exact hs.trans h
  | exit id => obtain ⟨k1, h1, h2⟩ := h; exact ⟨k1, h1, hs.trans h2⟩
  | ret => obtain ⟨k1, h2⟩ := h; exact ⟨k1, hs.trans h2⟩
  | pan v => obtain ⟨v', todo, h1, h2⟩ := h; exact ⟨v', todo, h1, hs.trans h2⟩

theorem aops_sound (ht : TabOK tb) (hrun : RunSound tb run) : ∀ (l : List Oper) (i : Nat) (st : St) (a : Act) (μ : Mu) (W : World) (cs : List Frame) (cl cl' : List Rec) (pv : Option Value) (st' : St), ops.toList.drop i = l →
    aops tb run rd ops l st cl = some (cl', pv, st') → Glob tb μ → StR μ W st a → PanR μ st.nz.pan b.kind cs → RoundR μ rd b.roundOf →
    Goes μ W st b cs st' (Ends tb.P (lone (mk b a (.inRegion ops (List.range' i l.length) :: k)) cs W) b k (match pv with | none => .normal | some v => .pan v)) := by
  intro l
  induction l with
  | nil =>
    intro i st a μ W cs cl cl' pv st' hl h hg hS hpan hro
    cases h
    exact .here hS hpan (.one st_region_end)
  | cons o l ih =>
    intro i st a μ W cs cl cl' pv st' hl h hg hS hpan hro
    have ho : ops[i]? = some o := by
      have : (ops.toList.drop i)[0]? = some o := by rw [hl]; rfl
      simpa using this
    have hl' : ops.toList.drop (i + 1) = l := by
      rw [← List.drop_drop, hl]; rfl
    rw [List.length_cons, List.range'_succ]
    unfold aops at h
    split at h
    · -- wanted
      rename_i hw
      have hw' := wanted_sound hS.tmps hw
      split at h
      · rename_i c v nz hop
        split at h
        · rename_i tmps hput
          obtain ⟨μ1, W1, defs1, e1, e2, e3, e4, e5, v', e6, e7⟩ := op_sound (b := b) (a := a) (k := k) (cs := cs) (ops := ops) (i := i) (rest := List.range' (i + 1) l.length) ht hrun hop hg hS.mem (evalOp_sound hg hS.tmps) hS.defs hpan hro ho hw'
          have hT := putDst_sound (a := { a with defers := defs1 }) (hS.tmps.mono e1.le) hput e6
          have hG : Goes μ W st b cs { st with tmps, nz } (fun μ1 W1 a1 cs1 => Steps tb.P (lone (mk b a (.inRegion ops (i :: List.range' (i + 1) l.length) :: k)) cs W) (lone (mk b a1 (.inRegion ops (List.range' (i + 1) l.length) :: k)) cs1 W1)) :=
            ⟨μ1, W1, ({ a with defers := defs1 } : Act).put o.dst v', e1, ⟨e2, hT, by cases o.dst <;> exact e4⟩, e3, e5, rfl, e7⟩
          refine hG.trans fun μ2 W2 a2 cs2 hle hS2 hp2 hst => ?_
          exact (ih (i + 1) _ a2 μ2 W2 cs2 _ _ _ _ hl' h (hg.mono tb hle) hS2 hp2 (hro.mono hle)).mono fun _ _ _ _ he => he.head hst
        · cases h
      · rename_i c v nz hop
        cases h
        obtain ⟨μ1, W1, defs1, e1, e2, e3, e4, e5, v', todo, e6, e7⟩ := op_sound (b := b) (a := a) (k := k) (cs := cs) (ops := ops) (i := i) (rest := List.range' (i + 1) l.length) ht hrun hop hg hS.mem (evalOp_sound hg hS.tmps) hS.defs hpan hro ho hw'
        exact ⟨μ1, W1, { a with defers := defs1 }, e1, ⟨e2, hS.tmps.mono e1.le, e4⟩, e3, e5, rfl, v', todo, e6, e7⟩
      · cases h
    · rename_i hw
      have hw' := wanted_sound hS.tmps hw
      split at h
      · rename_i tmps hput
        have hT := putDst_sound (v' := undef) (a := a) hS.tmps hput (by unfold undef; exact .tuple rfl (by simp))
        have hst := st_op_skip (P := tb.P) (b := b) (a := a) (k := k) (cs := cs) (w := W) (rest := List.range' (i + 1) l.length) ho hw'
        have hG : Goes μ W st b cs { st with tmps } (fun μ1 W1 a1 cs1 => Steps tb.P (lone (mk b a (.inRegion ops (i :: List.range' (i + 1) l.length) :: k)) cs W) (lone (mk b a1 (.inRegion ops (List.range' (i + 1) l.length) :: k)) cs1 W1)) := by
          refine ⟨μ, W, a.put o.dst undef, Ext.rfl, ⟨hS.mem, hT, by cases o.dst <;> exact hS.defs⟩, ?_, id, rfl, ?_⟩
          · rw [show ({ st with tmps } : St).nz.pan = st.nz.pan from rfl, afterRec_same]; exact hpan
          · rw [show ({ st with tmps } : St).nz.pan = st.nz.pan from rfl, afterRec_same]; exact .one hst
        refine hG.trans fun μ2 W2 a2 cs2 hle hS2 hp2 hst => ?_
        exact (ih (i + 1) _ a2 μ2 W2 cs2 _ _ _ _ hl' h (hg.mono tb hle) hS2 hp2 (hro.mono hle)).mono fun _ _ _ _ he => he.head hst
      · cases h
    · cases h

/-- A region in text order. -/
theorem region_text (ht : TabOK tb) (hrun : RunSound tb run) {id : Nat} {ex : Ex} (h : aregion tb run rd ops false st = some (ex, st')) (hg : Glob tb μ) (hS : StR μ W st a) (hpan : PanR μ st.nz.pan b.kind cs) (hro : RoundR μ rd b.roundOf) :
    Goes μ W st b cs st' (Ends tb.P (lone (mk b a (.code (.region id ops false) :: k)) cs W) b k ex) := by
  have hst := st_region (P := tb.P) (b := b) (a := a) (k := k) (cs := cs) (w := W) (id := id) (ops := ops)
  have hr : List.range ops.size = List.range' 0 ops.toList.length := by rw [List.range_eq_range']; simp
  rw [hr] at hst
  unfold aregion at h
  split at h
  · rename_i recs st1 hops
    simp only [cond_false] at h
    cases h
    exact (aops_sound ht hrun ops.toList 0 st a μ W cs _ _ _ _ (by simp) hops hg hS hpan hro).mono fun _ _ _ _ he => he.head (.one hst)
  · rename_i recs v st1 hops
    simp only [cond_false] at h
    cases h
    exact (aops_sound ht hrun ops.toList 0 st a μ W cs _ _ _ _ (by simp) hops hg hS hpan hro).mono fun _ _ _ _ he => he.head (.one hst)
  · cases h

end
end Go.Ab
