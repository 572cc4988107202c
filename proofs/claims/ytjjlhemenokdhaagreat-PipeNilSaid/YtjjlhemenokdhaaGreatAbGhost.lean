import Derived.Test.YtjjlhemenokdhaaGreatAbText
import Derived.Test.YtjjlhemenokdhaaGreatAbRegion
namespace Go.Ab

section
variable {tb : Tab} {run : Runner} {rd : Option Nat} {ops : Array Oper} {μ μ0 : Mu} {W W0 W' : World} {M M0 : Mem} {st fin : St} {rs : List Rec} {a : Act} {b : Frame} {cs : List Frame}

theorem Ext.ghostR (h : Ext μ0 M0 W0 μ M W) (hM : MemR μ M W) (x : Blk) : Ext μ0 M0 W0 μ (newBlk M x).2 W where
  nx := by rw [newBlk_next]; have := h.nx; omega
  mu := h.mu
  le := h.le
  ghost := fun B hB hn => by
    have := h.nx
    rw [getBlk_new, if_neg (by omega)]
    exact h.ghost B hB hn
  hp := h.hp
  own := fun c hc ⟨B, r, y, h1, h2, h3, h4⟩ => by
    have hne : B ≠ M.next := fun e => by subst e; rw [hM.fresh] at h1; cases h1
    rw [getBlk_new, if_neg hne] at h2
    exact h.own c hc ⟨B, r, y, h1, h2, h3, h4⟩
  keep := h.keep
  same := h.same

theorem Ext.placeR (h : Ext μ0 M0 W0 μ M W) {B : Nat} {r : Ref} (hb : M0.next ≤ B) (hn : μ B = none) (hr : r.blk = W.heap.size) (hsz : W'.heap.size = W.heap.size + 1) (hold : ∀ c, c < W.heap.size → W'.heap[c]? = W.heap[c]?) (hs : WSame W W') :
    Ext μ0 M0 W0 (μ.upd B r) M W' where
  nx := h.nx
  mu := fun C hC => by rw [Mu.upd_ne (by omega)]; exact h.mu C hC
  le := h.le.trans (Mu.upd_le hn)
  ghost := h.ghost
  hp := by have := h.hp; omega
  own := fun c hc ⟨C, s, y, h1, h2, h3, h4⟩ => by
    have := h.hp
    by_cases e : C = B
    · subst e; rw [Mu.upd_same] at h1; cases h1; omega
    · rw [Mu.upd_ne e] at h1
      exact h.own c hc ⟨C, s, y, h1, h2, h3, h4⟩
  keep := fun c hc hn' => by
    have := h.hp
    rw [hold c (by omega)]
    exact h.keep c hc hn'
  same := h.same.trans hs

theorem BlkR.heap {x : Blk} {r : Ref} (h : BlkR μ W r x) (hh : W'.heap = W.heap) : BlkR μ W' r x := by
  cases h with
  | cells h k => exact .cells (by rw [hh]; exact h) k
  | obj h h0 k => exact .obj (by rw [hh]; exact h) h0 k
  | loop h hd ht => exact .loop (by rw [hh]; exact h) hd ht
  | dead => exact .dead

theorem MemR.heap (h : MemR μ M W) (hh : W'.heap = W.heap) : MemR μ M W' where
  dom := fun B r hB => by rw [hh]; exact h.dom B r hB
  blk := fun B x r hx hB => (h.blk B x r hx hB).heap hh
  inj := h.inj
  past := h.past

theorem Ext.heap (hh : W'.heap = W.heap) (hs : WSame W W') : Ext μ M W μ M W' where
  nx := Nat.le_refl _
  mu := fun _ _ => _root_.rfl
  le := Mu.le.rfl
  ghost := fun _ _ _ => _root_.rfl
  hp := by rw [hh]; exact Nat.le_refl _
  own := fun _ _ h => h
  keep := fun _ _ _ => by rw [hh]
  same := hs

/-- A step of the run in text order. -/
theorem did_goes (ht : TabOK tb) (hrun : RunSound tb run) {o : Oper} {s s1 : St} {c : Nat} {v : Value} {i : Nat} (h : Did tb run rd ops o s c v s1) (ho : ops[i]? = some o) (hg : Glob tb μ) (hS : StR μ W s a) (hpan : PanR μ s.nz.pan b.kind cs) (hro : RoundR μ rd b.roundOf) :
    Goes μ W s b cs s1 fun _ _ _ _ => True := by
  cases h with
  | op hw hop hp =>
    obtain ⟨μ1, W1, defs1, e1, e2, e3, e4, e5, v', e6, e7⟩ := op_sound (b := b) (a := a) (k := []) (cs := cs) (ops := ops) (i := i) (rest := []) ht hrun hop hg hS.mem (evalOp_sound hg hS.tmps) hS.defs hpan hro ho (wanted_sound hS.tmps hw)
    exact ⟨μ1, W1, ({ a with defers := defs1 } : Act).put o.dst v', e1, ⟨e2, putDst_sound (a := { a with defers := defs1 }) (hS.tmps.mono e1.le) hp e6, by cases o.dst <;> exact e4⟩, e3, e5, rfl, trivial⟩
  | skip hw hp =>
    exact ⟨μ, W, a.put o.dst undef, Ext.rfl, ⟨hS.mem, putDst_sound (v' := undef) (a := a) hS.tmps hp (by unfold undef; exact .tuple rfl (by simp)), by cases o.dst <;> exact hS.defs⟩, by simp only; rw [afterRec_same]; exact hpan, id, rfl, trivial⟩

/-- The run in text order. -/
structure Txt (tb : Tab) (run : Runner) (rd : Option Nat) (ops : Array Oper) (st fin : St) (rs : List Rec) : Prop where
  len : rs.length = ops.size
  zero : stAt rs fin 0 = st
  did : ∀ i o, ops[i]? = some o → ∃ r, rs[i]? = some r ∧ r.op = o ∧ Did tb run rd ops o r.st r.cls r.val (stAt rs fin (i + 1))
  temps : tempsOk ops (Region.before ops) = true
  pairs : pairsOk tb (Region.before ops) (withNext fin rs).zipIdx = true

theorem size_of_get {α : Type} {x : Array α} {i : Nat} {o : α} (h : x[i]? = some o) : i < x.size := by
  rcases Nat.lt_or_ge i x.size with hlt | hge
  · exact hlt
  · rw [Array.getElem?_eq_none hge] at h; cases h

theorem Txt.at (T : Txt tb run rd ops st fin rs) {i : Nat} {o : Oper} (ho : ops[i]? = some o) :
    ∃ r, rs[i]? = some r ∧ r.op = o ∧ r.st = stAt rs fin i ∧ r.cls = clsAt rs i ∧ Did tb run rd ops o (stAt rs fin i) (clsAt rs i) r.val (stAt rs fin (i + 1)) := by
  obtain ⟨r, h1, h2, h3⟩ := T.did i o ho
  have e1 : stAt rs fin i = r.st := by simp [stAt, h1]
  have e2 : clsAt rs i = r.cls := by simp [clsAt, h1]
  exact ⟨r, h1, h2, e1.symm, e2.symm, by rw [e1, e2]; exact h3⟩

theorem get_of_size {α : Type} {x : Array α} {i : Nat} (h : i < x.size) : ∃ o, x[i]? = some o := ⟨x[i], by simp [h]⟩

theorem Txt.end_ (T : Txt tb run rd ops st fin rs) : stAt rs fin ops.size = fin := by
  unfold stAt
  rw [List.getElem?_eq_none (by rw [T.len]; exact Nat.le_refl _)]

theorem Txt.goes (T : Txt tb run rd ops st fin rs) (ht : TabOK tb) (hrun : RunSound tb run) (hg : Glob tb μ) (hS : StR μ W st a) (hpan : PanR μ st.nz.pan b.kind cs) (hro : RoundR μ rd b.roundOf) : ∀ q, q ≤ ops.size → Goes μ W st b cs (stAt rs fin q) fun _ _ _ _ => True := by
  intro q
  induction q with
  | zero => intro _; rw [T.zero]; exact .here hS hpan trivial
  | succ q ih =>
    intro hq
    obtain ⟨o, ho⟩ := get_of_size (x := ops) (i := q) (by omega)
    obtain ⟨r, _, _, _, _, hd⟩ := T.at ho
    exact (ih (by omega)).trans fun μ1 W1 a1 cs1 hle hS1 hp1 _ => did_goes ht hrun hd ho (hg.mono tb hle) hS1 hp1 (hro.mono hle)

theorem Txt.past (T : Txt tb run rd ops st fin rs) (ht : TabOK tb) (hrun : RunSound tb run) (hg : Glob tb μ) (hS : StR μ W st a) (hpan : PanR μ st.nz.pan b.kind cs) (hro : RoundR μ rd b.roundOf) {q : Nat} (hq : q ≤ ops.size) {B : Nat} (hB : (stAt rs fin q).nz.mem.next ≤ B) :
    getBlk (stAt rs fin q).nz.mem B = none := by
  obtain ⟨_, _, _, _, h, _⟩ := T.goes ht hrun hg hS hpan hro q hq
  exact h.mem.past B hB

theorem Txt.next (T : Txt tb run rd ops st fin rs) (ht : TabOK tb) (hrun : RunSound tb run) (hg : Glob tb μ) (hS : StR μ W st a) (hpan : PanR μ st.nz.pan b.kind cs) (hro : RoundR μ rd b.roundOf) {q : Nat} (hq : q < ops.size) :
    (stAt rs fin q).nz.mem.next ≤ (stAt rs fin (q + 1)).nz.mem.next := by
  obtain ⟨μ1, W1, a1, e1, h, hp, _⟩ := T.goes ht hrun hg hS hpan hro q (by omega)
  obtain ⟨o, ho⟩ := get_of_size (x := ops) (i := q) hq
  obtain ⟨r, _, _, _, _, hd⟩ := T.at ho
  obtain ⟨_, _, _, e2, _⟩ := did_goes ht hrun hd ho (hg.mono tb e1.le) h hp (hro.mono e1.le)
  exact e2.nx

/-- What the numbers of blocks do. -/
structure Nums (ops : Array Oper) (fin : St) (rs : List Rec) : Prop where
  past : ∀ q, q ≤ ops.size → ∀ B, (stAt rs fin q).nz.mem.next ≤ B → getBlk (stAt rs fin q).nz.mem B = none
  next : ∀ p q, p ≤ q → q ≤ ops.size → (stAt rs fin p).nz.mem.next ≤ (stAt rs fin q).nz.mem.next

theorem Txt.nums (T : Txt tb run rd ops st fin rs) (ht : TabOK tb) (hrun : RunSound tb run) (hg : Glob tb μ) (hS : StR μ W st a) (hpan : PanR μ st.nz.pan b.kind cs) (hro : RoundR μ rd b.roundOf) : Nums ops fin rs where
  past := fun q hq B hB => T.past ht hrun hg hS hpan hro hq hB
  next := fun p q hpq hq => by
    induction q with
    | zero => rw [Nat.le_zero.1 hpq]; exact Nat.le_refl _
    | succ q ih =>
      rcases Nat.lt_or_ge p (q + 1) with hlt | hge
      · exact Nat.le_trans (ih (by omega) (by omega)) (T.next ht hrun hg hS hpan hro (by omega))
      · rw [show p = q + 1 by omega]; exact Nat.le_refl _

/-- No operation between that changes memory. -/
def Still (rs : List Rec) (p q : Nat) : Prop := ∀ i, p ≤ i → i < q → clsAt rs i ≠ 2

theorem Txt.still (T : Txt tb run rd ops st fin rs) (N : Nums ops fin rs) {p : Nat} : ∀ q, p ≤ q → q ≤ ops.size → Still rs p q →
    (∀ B, B < (stAt rs fin p).nz.mem.next → getBlk (stAt rs fin q).nz.mem B = getBlk (stAt rs fin p).nz.mem B) ∧ (stAt rs fin q).nz.defs = (stAt rs fin p).nz.defs ∧ (stAt rs fin q).nz.pan = (stAt rs fin p).nz.pan ∧
    ∀ (μ : Mu) (W : World), MemR μ (stAt rs fin p).nz.mem W → MemR μ (stAt rs fin q).nz.mem W ∧ ∀ μ0 M0 W0, Ext μ0 M0 W0 μ (stAt rs fin p).nz.mem W → Ext μ0 M0 W0 μ (stAt rs fin q).nz.mem W := by
  intro q
  induction q with
  | zero =>
    intro hpq hq hs
    rw [Nat.le_zero.1 hpq]
    exact ⟨fun _ _ => rfl, rfl, rfl, fun _ _ h => ⟨h, fun _ _ _ h => h⟩⟩
  | succ q ih =>
    intro hpq hq hs
    rcases Nat.lt_or_ge p (q + 1) with hlt | hge
    · obtain ⟨h1, h2, h3, h4⟩ := ih (by omega) (by omega) (fun i hi hi2 => hs i hi (by omega))
      obtain ⟨o, ho⟩ := get_of_size (x := ops) (i := q) (by omega)
      obtain ⟨r, _, _, _, _, hd⟩ := T.at ho
      rcases hd.nz (hs q (by omega) (by omega)) with hn | ⟨_, x, f, _, _, hn⟩
      · rw [hn]; exact ⟨h1, h2, h3, h4⟩
      · rw [hn]
        refine ⟨fun B hB => ?_, h2, h3, fun μ W hM => ?_⟩
        · have := N.next p q (by omega) (by omega)
          simp only
          rw [getBlk_new, if_neg (by omega)]
          exact h1 B hB
        · obtain ⟨g1, g2⟩ := h4 μ W hM
          exact ⟨g1.ghost x, fun μ0 M0 W0 he => (g2 μ0 M0 W0 he).ghostR g1 x⟩
    · rw [show q + 1 = p by omega]
      exact ⟨fun _ _ => rfl, rfl, rfl, fun _ _ h => ⟨h, fun _ _ _ h => h⟩⟩

theorem Txt.tv (T : Txt tb run rd ops st fin rs) {t : Tmp} {p : Nat} : ∀ q, p ≤ q → q ≤ ops.size → (∀ i o, p ≤ i → i < q → ops[i]? = some o → o.dst ≠ some t) → tv (stAt rs fin q) t = tv (stAt rs fin p) t := by
  intro q
  induction q with
  | zero => intro hpq hq h; rw [Nat.le_zero.1 hpq]
  | succ q ih =>
    intro hpq hq h
    rcases Nat.lt_or_ge p (q + 1) with hlt | hge
    · obtain ⟨o, ho⟩ := get_of_size (x := ops) (i := q) (by omega)
      obtain ⟨r, _, _, _, _, hd⟩ := T.at ho
      rw [hd.tv t, if_neg (h q o (by omega) (by omega) ho)]
      exact ih (by omega) (by omega) fun i o hi hi2 => h i o hi (by omega)
    · rw [show q + 1 = p by omega]

theorem Txt.nt (T : Txt tb run rd ops st fin rs) : ∀ q, q ≤ ops.size → (stAt rs fin q).nt = st.nt := by
  intro q
  induction q with
  | zero => intro _; rw [T.zero]
  | succ q ih =>
    intro hq
    obtain ⟨o, ho⟩ := get_of_size (x := ops) (i := q) (by omega)
    obtain ⟨r, _, _, _, _, hd⟩ := T.at ho
    rw [hd.nt]
    exact ih (by omega)

end
end Go.Ab
