import Derived.Test.YtjjlhemenokdhaaGreatAbLoop
import Derived.Test.YtjjlhemenokdhaaGreatAbDraw
namespace Go.Ab

section
variable {tb : Tab} {μ : Mu} {W : World} {st st' : St} {a : Act} {b : Frame} {cs : List Frame} {ops : Array Oper} {k : List Item} {rd : Option Nat} {run : Runner} {M : Mem}

/-- The end of a range over a function. -/
theorem range_done (hS : StR μ W st a) (hpan : PanR μ st.nz.pan b.kind cs) {l : Nat} {r : Ref} (hl : μ l = some r) {ex : Ex} (h : endLoop? l st = some (ex, st')) {m : Machine}
    (hm : Steps tb.P m (lone (mk b a (.endRangeFunc r.blk :: k)) cs W)) : Goes μ W st b cs st' (Ends tb.P m b k ex) := by
  obtain ⟨W', jump, e1, e2, e3, e4, e5, e6⟩ := endLoop_sound hS hl tb.P h
  have hst := hm.trans (.one (st_endRange (P := tb.P) (b := b) (a := a) (k := k) (cs := cs) e3))
  refine ⟨μ, W', a, e1, e2, ?_, ?_, e5, ?_⟩
  · rw [e4, afterRec_same]; exact hpan
  · rw [e4]; exact id
  · rw [e4, afterRec_same]
    rcases e6 with ⟨rfl, rfl⟩ | ⟨rfl, rfl⟩ | ⟨id, rfl, rfl⟩
    · exact hst
    · exact ⟨k, hst⟩
    · exact ⟨k, rfl, hst⟩

theorem range_goes (ht : TabOK tb) (hrun : RunSound tb run) {fn : FuncId} {L : Nat} {f : Operand} {params : Array Tmp} {assign body : Code} {ex : Ex} (h : acode tb run rd fn L (.rangeFunc f params assign body) st = some (ex, st')) (hfn : b.fn = fn)
    (hg : Glob tb μ) (hS : StR μ W st a) (hpan : PanR μ st.nz.pan b.kind cs) (hro : RoundR μ rd b.roundOf) :
    Goes μ W st b cs st' (Ends tb.P (lone (mk b a (.code (.rangeFunc f params assign body) :: k)) cs W) b k ex) := by
  unfold acode arange at h
  cases he : enter? rd fn params assign body st with
  | none => rw [he] at h; cases h
  | some q =>
    obtain ⟨l, z⟩ := q
    rw [he] at h
    simp only at h
    obtain ⟨μ1, W1, r, mark, e1, e2, e3, e4, e5⟩ := enter_sound hS hro tb.P he
    rw [← hfn] at e4
    cases htg : target? tb (evalOp tb.ng st) (.value f) [.func (.yield l) #[] #[]] with
    | none => rw [htg] at h; cases h
    | some t =>
      rw [htg] at h
      simp only at h
      have hg1 := hg.mono tb e1.le
      have hρ : ∀ x, VR μ1 (evalOp tb.ng st x) (a.eval x) := evalOp_sound hg1 (hS.tmps.mono e1.le)
      have hargs : All2 (VR μ1) [Value.func (.yield l) #[] #[]] (#[Value.func (.yield r.blk) #[] #[]] : Array Value).toList :=
        .cons (.func (.yield e3) rfl rfl (by simp) (by simp)) .nil
      obtain ⟨t1, _⟩ := target_sound ht hρ hargs htg
      have hinv : InvR tb μ1 t (rangeCall a.eval f r.blk) := (t1 f rfl).congr fun w => by simp [rangeCall, resolve, Act.eval]
      have hG1 : Goes μ W st b cs { st with nz := z } (fun μ2 W2 a2 cs2 => μ2 = μ1 ∧ W2 = W1 ∧ a2 = { a with defers := mark ++ a.defers } ∧ cs2 = cs) := by
        refine ⟨μ1, W1, _, e1, e2, ?_, ?_, rfl, rfl, rfl, rfl, ?_⟩
        · simp only [e5]; rw [afterRec_same]; exact hpan.mono e1.le
        · simp only [e5]; exact id
        · simp only [e5]; rw [afterRec_same]
      refine hG1.trans fun μ2 W2 a2 cs2 hle hS2 hpan2 ⟨q1, q2, q3, q4⟩ => ?_
      subst q1 q2 q3 q4
      have hret : ∀ v r', (rangeFrame b a mark r.blk k).finish v = r' → r' = mk b { a with defers := mark ++ a.defers } (.endRangeFunc r.blk :: k) := by
        intro v r' hr; rw [← hr]; rfl
      cases hr : run t z.mem with
      | none => rw [hr] at h; cases h
      | some q =>
        obtain ⟨out, M'⟩ := q
        rw [hr] at h
        cases t with
        | dfn f args p => exact hinv.elim
        | fn g args =>
          obtain ⟨args', ha, hs⟩ := hinv
          have hrec := hrun.norec _ _ _ _ _ hr
          rcases hrun.fn _ _ _ _ _ hr μ2 W2 args' hg1 e2.mem ha with ⟨fn', c, hf, hb, hn, hgo⟩ | ⟨_, v, v', μ', W', rfl, h1, h2, h3, h4⟩
          · obtain ⟨μ', W', fr, h1, h2, h3, h4, h5, h6, h7⟩ := hgo .normal (rangeFrame b a mark r.blk k :: cs2) (PanR.normal _ _)
            have henter := st_range_enter (P := tb.P) (b := b) (a := a) (k := k) (cs := cs2) (f := f) e4 ((hs W2).trans (callFunc_enter hf hb hn args' W2))
            rw [hrec] at h3
            have hG2 : ∀ F : Mu → World → Act → List Frame → Prop, F μ' W' { a with defers := mark ++ a.defers } cs2 → Goes μ2 W2 { st with nz := z } b cs2 { st with nz := { z with mem := M' } } F := fun F hF =>
              ⟨μ', W', { a with defers := mark ++ a.defers }, h1, ⟨h2, e2.tmps.mono h1.le, all2_defs e2.defs h1.le⟩, by simp only; rw [afterRec_same]; exact hpan2.mono h1.le, id, rfl, by simp only; rw [afterRec_same]; exact hF⟩
            cases out with
            | ret v rr =>
              obtain ⟨g1, v', g2, g3⟩ := h7
              simp only at h
              have hlv := step_leave_returned (P := tb.P) (fr := fr) (c := rangeFrame b a mark r.blk k) (cs := cs2) (w := W') (v := v') ⟨g1, h6, h5, fn', by rw [h4]; exact hf, g2⟩
              rw [hret v' _ rfl] at hlv
              refine (hG2 (fun μ3 W3 a3 cs3 => μ3 = μ' ∧ Steps tb.P (lone (mk b a (.code (.rangeFunc f params assign body) :: k)) cs2 W) (lone (mk b a3 (.endRangeFunc r.blk :: k)) cs3 W3)) ⟨rfl, .head henter (h3.trans (.one hlv))⟩).trans
                fun μ3 W3 a3 cs3 hle3 hS3 hpan3 ⟨q1, hst⟩ => ?_
              subst q1
              exact range_done hS3 hpan3 (hle3 _ _ e3) h hst
            | pan v =>
              obtain ⟨v', g1, g2⟩ := h7
              simp only at h
              cases h
              have hlv := step_leave_panicked (P := tb.P) (fr := fr) (c := rangeFrame b a mark r.blk k) (cs := cs2) (w := W') (chain := [{ v := v', recovered := false }]) ⟨g1, h6, fn', by rw [h4]; exact hf⟩
              exact hG2 _ ⟨v', .inRangeFunc r.blk :: k, g2, .head henter (h3.trans (.one hlv))⟩
          · have hval := st_range_value (P := tb.P) (b := b) (a := a) (k := k) (cs := cs2) (f := f) e4 ((hs W2).trans h1)
            simp only at h
            have hG2 : ∀ F : Mu → World → Act → List Frame → Prop, F μ' W' { a with defers := mark ++ a.defers } cs2 → Goes μ2 W2 { st with nz := z } b cs2 { st with nz := { z with mem := M' } } F := fun F hF =>
              ⟨μ', W', { a with defers := mark ++ a.defers }, h4, ⟨h3, e2.tmps.mono h4.le, all2_defs e2.defs h4.le⟩, by simp only; rw [afterRec_same]; exact hpan2.mono h4.le, id, rfl, by simp only; rw [afterRec_same]; exact hF⟩
            refine (hG2 (fun μ3 W3 a3 cs3 => μ3 = μ' ∧ Steps tb.P (lone (mk b a (.code (.rangeFunc f params assign body) :: k)) cs2 W) (lone (mk b a3 (.endRangeFunc r.blk :: k)) cs3 W3)) ⟨rfl, .one hval⟩).trans
              fun μ3 W3 a3 cs3 hle3 hS3 hpan3 ⟨q1, hst⟩ => ?_
            subst q1
            exact range_done hS3 hpan3 (hle3 _ _ e3) h hst
        | round l2 args =>
          obtain ⟨r2, args', ha, hl2, hs⟩ := hinv
          obtain ⟨v, g, tmps, as, bd, rfl, h1, hgo⟩ := hrun.round _ _ _ _ _ hr μ2 W2 args' r2 hg1 e2.mem ha hl2
          obtain ⟨μ', W', v', g1, g2, g3, g4⟩ := hgo (rangeFrame b a mark r.blk k) cs2
          have hround := st_range_round (P := tb.P) (b := b) (a := a) (k := k) (cs := cs2) (f := f) e4 ((hs W2).trans h1)
          rw [hret v' _ rfl] at g4
          simp only at h
          have hG2 : ∀ F : Mu → World → Act → List Frame → Prop, F μ' W' { a with defers := mark ++ a.defers } cs2 → Goes μ2 W2 { st with nz := z } b cs2 { st with nz := { z with mem := M' } } F := fun F hF =>
            ⟨μ', W', { a with defers := mark ++ a.defers }, g1, ⟨g2, e2.tmps.mono g1.le, all2_defs e2.defs g1.le⟩, by simp only; rw [afterRec_same]; exact hpan2.mono g1.le, id, rfl, by simp only; rw [afterRec_same]; exact hF⟩
          refine (hG2 (fun μ3 W3 a3 cs3 => μ3 = μ' ∧ Steps tb.P (lone (mk b a (.code (.rangeFunc f params assign body) :: k)) cs2 W) (lone (mk b a3 (.endRangeFunc r.blk :: k)) cs3 W3)) ⟨rfl, .head hround g4⟩).trans
            fun μ3 W3 a3 cs3 hle3 hS3 hpan3 ⟨q1, hst⟩ => ?_
          subst q1
          exact range_done hS3 hpan3 (hle3 _ _ e3) h hst

/-- Code. -/
theorem acode_sound (ht : TabOK tb) (hrun : RunSound tb run) {fn : FuncId} {L : Nat} (hfn : b.fn = fn) : ∀ (c : Code) (st st' : St) (ex : Ex) (a : Act) (μ : Mu) (W : World) (cs : List Frame) (k : List Item),
    acode tb run rd fn L c st = some (ex, st') → Glob tb μ → StR μ W st a → PanR μ st.nz.pan b.kind cs → RoundR μ rd b.roundOf →
    Goes μ W st b cs st' (Ends tb.P (lone (mk b a (.code c :: k)) cs W) b k ex) := by
  intro c
  induction c with
  | skip =>
    intro st st' ex a μ W cs k h hg hS hpan hro
    cases h
    exact .here hS hpan (.one st_skip)
  | label l =>
    intro st st' ex a μ W cs k h hg hS hpan hro
    cases h
    exact .here hS hpan (.one st_label)
  | region id ops draw =>
    intro st st' ex a μ W cs k h hg hS hpan hro
    cases draw with
    | false => exact region_text ht hrun h hg hS hpan hro
    | true => exact region_draw ht hrun h hg hS hpan hro
  | seq x y ihx ihy =>
    intro st st' ex a μ W cs k h hg hS hpan hro
    unfold acode at h
    have h0 := st_seq (P := tb.P) (b := b) (a := a) (k := k) (cs := cs) (w := W) (x := x) (y := y)
    split at h
    · rename_i st1 h1
      refine (ihx st st1 _ a μ W cs (.code y :: k) h1 hg hS hpan hro).trans fun μ1 W1 a1 cs1 hle hS1 hpan1 he => ?_
      exact (ihy st1 st' ex a1 μ1 W1 cs1 k h (hg.mono tb hle) hS1 hpan1 (hro.mono hle)).mono fun _ _ _ _ hq => hq.head (.head h0 he)
    · rename_i hne
      refine (ihx st st' ex a μ W cs (.code y :: k) h hg hS hpan hro).mono fun μ1 W1 a1 cs1 he => ?_
      refine Ends.head (.one h0) ?_
      cases ex with
      | normal => exact absurd h (hne _)
      | exit id => exact he
      | ret => exact he
      | pan v => exact he
  | cond c x y ihx ihy =>
    intro st st' ex a μ W cs k h hg hS hpan hro
    unfold acode at h
    have hv := evalOp_sound hg hS.tmps c
    cases hc : evalOp tb.ng st c with
    | bool t =>
      rw [hc] at h hv
      simp only at h
      have hv' : a.eval c = .bool t := by
        generalize a.eval c = u at hv
        cases hv with
        | bool => rfl
      have h0 := st_cond (P := tb.P) (b := b) (a := a) (k := k) (cs := cs) (w := W) (x := x) (y := y) hv'
      cases t with
      | true => exact (ihx st st' ex a μ W cs k h hg hS hpan hro).mono fun _ _ _ _ hq => hq.head (.one h0)
      | false => exact (ihy st st' ex a μ W cs k h hg hS hpan hro).mono fun _ _ _ _ hq => hq.head (.one h0)
    | _ => rw [hc] at h; cases h
  | block id c ih =>
    intro st st' ex a μ W cs k h hg hS hpan hro
    unfold acode at h
    have h0 := st_block (P := tb.P) (b := b) (a := a) (k := k) (cs := cs) (w := W) (id := id) (c := c)
    split at h
    · rename_i j st1 h1
      refine Goes.trans (st1 := st1) (ih st st1 _ a μ W cs (.inBlock id :: k) h1 hg hS hpan hro) fun μ1 W1 a1 cs1 hle hS1 hpan1 he => ?_
      obtain ⟨k1, q1, q2⟩ := he
      cases hj : Nat.beq j id with
      | true =>
        rw [hj] at h
        cases h
        have : j = id := Nat.eq_of_beq_eq_true hj
        subst this
        have hk : exitTo j k1 = some k := by rw [q1]; simp [exitTo]
        exact .here hS1 hpan1 (Steps.head h0 (q2.trans (.one (st_exit hk))))
      | false =>
        rw [hj] at h
        cases h
        have hne : j ≠ id := fun e => by subst e; rw [Nat.beq_refl] at hj; cases hj
        have hk : exitTo j (.inBlock id :: k) = exitTo j k := by
          simp [exitTo, Ne.symm hne]
        exact .here hS1 hpan1 ⟨k1, q1.trans hk, Steps.head h0 q2⟩
    · rename_i hne
      refine Goes.trans (ih st st' ex a μ W cs (.inBlock id :: k) h hg hS hpan hro) fun μ1 W1 a1 cs1 hle hS1 hpan1 he => ?_
      refine .here hS1 hpan1 ?_
      refine Ends.head (.one h0) ?_
      cases ex with
      | normal => exact Steps.trans he (.one st_inBlock)
      | exit id => exact absurd h (hne _ _)
      | ret => exact he
      | pan v => exact he
  | loop c ih =>
    intro st st' ex a μ W cs k h hg hS hpan hro
    unfold acode at h
    have h0 := st_loop (P := tb.P) (b := b) (a := a) (k := k) (cs := cs) (w := W) (c := c)
    suffices H : ∀ (n : Nat) (st : St) (a : Act) (μ : Mu) (W : World) (cs : List Frame), aloop (acode tb run rd fn L c) n st = some (ex, st') → Glob tb μ → StR μ W st a → PanR μ st.nz.pan b.kind cs → RoundR μ rd b.roundOf →
        Goes μ W st b cs st' (Ends tb.P (lone (mk b a (.code c :: .inLoop c :: k)) cs W) b k ex) from (H L st a μ W cs h hg hS hpan hro).mono fun _ _ _ _ hq => hq.head (.one h0)
    intro n
    induction n with
    | zero => intro st a μ W cs h; cases h
    | succ n ihn =>
      intro st a μ W cs h hg hS hpan hro
      unfold aloop at h
      split at h
      · rename_i st1 h1
        refine Goes.trans (ih st st1 _ a μ W cs (.inLoop c :: k) h1 hg hS hpan hro) fun μ1 W1 a1 cs1 hle hS1 hpan1 he => ?_
        exact (ihn st1 a1 μ1 W1 cs1 h (hg.mono tb hle) hS1 hpan1 (hro.mono hle)).mono fun _ _ _ _ hq => hq.head (Steps.trans he (.one st_inLoop))
      · rename_i hne
        refine (ih st st' ex a μ W cs (.inLoop c :: k) h hg hS hpan hro).mono fun μ1 W1 a1 cs1 he => ?_
        cases ex with
        | normal => exact absurd h (hne _)
        | exit id => exact he
        | ret => exact he
        | pan v => exact he
  | exit id =>
    intro st st' ex a μ W cs k h hg hS hpan hro
    cases h
    exact .here hS hpan ⟨k, rfl, .refl _ _⟩
  | ret =>
    intro st st' ex a μ W cs k h hg hS hpan hro
    cases h
    exact .here hS hpan ⟨k, .refl _ _⟩
  | scope c ih =>
    intro st st' ex a μ W cs k h hg hS hpan hro
    unfold acode at h
    have h0 := st_scope (P := tb.P) (b := b) (a := a) (k := k) (cs := cs) (w := W) (c := c)
    refine (ih st st' ex a μ W cs (.inScope c :: k) h hg hS hpan hro).mono fun μ1 W1 a1 cs1 he => ?_
    refine Ends.head (.one h0) ?_
    cases ex with
    | normal => exact Steps.trans he (.one st_inScope)
    | exit id => exact he
    | ret => exact he
    | pan v => exact he
  | goto l => intro st st' ex a μ W cs k h; cases h
  | refuse s => intro st st' ex a μ W cs k h; cases h
  | rangeFunc f params assign body ih1 ih2 =>
    intro st st' ex a μ W cs k h hg hS hpan hro
    exact range_goes ht hrun h hfn hg hS hpan hro

end
end Go.Ab
