import Derived.Test.YtjjlhemenokdhaaGreatAbDrawn
namespace Go.Ab

section
variable {tb : Tab} {run : Runner} {rd : Option Nat} {ops : Array Oper} {μ μ0 : Mu} {W W0 : World} {st fin : St} {rs : List Rec} {a : Act} {b : Frame} {cs cs0 : List Frame} {k : List Item} {D : Nat → Bool} {c : Nat}

theorem closed_step {i : Nat} (hcl : ∀ i j, j < ops.size → D j = true → Bef ops i j → D i = true) (hp : ∀ p, Bef ops p i → D p = true) : ∀ p j, j < ops.size → (D j || j == i) = true → Bef ops p j → (D p || p == i) = true := by
  intro p j hj hD hb
  rw [Bool.or_eq_true] at hD
  rcases hD with hD | hD
  · rw [hcl p j hj hD hb]; rfl
  · have : j = i := by simpa using hD
    subst this
    rw [hp p hb]; rfl

/-- An operation that leaves memory alone. -/
theorem DInv.keep (T : Txt tb run rd ops st fin rs) (I : DInv tb ops μ0 W0 st fin rs b cs0 D c μ W a cs) {i : Nat} {o : Oper} {v v' : Value} (ho : ops[i]? = some o) (hDi : D i = false) (hp : ∀ p, Bef ops p i → D p = true) (hc : clsAt rs i ≠ 2 ∧ clsAt rs i ≠ 3)
    (hv : VR μ v v') (htv : ∀ t, tv (stAt rs fin (i + 1)) t = if o.dst = some t then v else tv (stAt rs fin i) t) (hlt : ∀ t, o.dst = some t → t < st.nt) : DInv tb ops μ0 W0 st fin rs b cs0 (fun j => D j || j == i) c μ W (a.put o.dst v') cs := by
  obtain ⟨t1, t2⟩ := tmps_step (a1 := a) T I.closed ho hDi hp Mu.le.rfl hv htv hlt rfl I.tsize I.tmps
  exact {
    le := I.le
    cut := by
      rcases I.cut with h | ⟨p, h1, h2, h3⟩
      · exact .inl h
      · exact .inr ⟨p, h1, by rw [h2]; rfl, h3⟩
    above := fun j hj hD => by
      rw [Bool.or_eq_true] at hD
      rcases hD with hD | hD
      · exact I.above j hj hD
      · have : j = i := by simpa using hD
        subst this
        exact hc
    closed := closed_step I.closed hp
    ext := I.ext
    mem := I.mem
    defs := by cases o.dst <;> exact I.defs
    pan := I.pan
    cs_eq := I.cs_eq
    panm := I.panm
    ghosts := fun j oj hj hoj h3 hD => by
      rw [Bool.or_eq_false_iff] at hD
      exact I.ghosts j oj hj hoj h3 hD.1
    tsize := t1
    tmps := t2 }

def start0 : Mem := { blk := .nil, next := 0 }

theorem no_defer {o : Oper} {ρ : Operand → Value} {m : Mem} (h : (∃ v, apure tb ρ o = some v) ∨ (∃ v, aread tb ρ o m = some v) ∨ ∃ x, makes? tb ρ o = some x) : ∀ c, o.op ≠ .defer c := by
  intro c e
  obtain ⟨dst, op, ty, pos, after, guard⟩ := o
  simp only at e
  subst e
  rcases h with ⟨_, h⟩ | ⟨_, h⟩ | ⟨_, h⟩ <;> cases h

theorem Did.nz3 {o : Oper} {s s1 : St} {ci : Nat} {v : Value} (h : Did tb run rd ops o s ci v s1) (hc : ci = 3) :
    ∃ x f, makes? tb (evalOp tb.ng s) o = some (x, f) ∧ v = f s.nz.mem.next ∧ s1.nz = { s.nz with mem := (newBlk s.nz.mem x).2 } := by
  cases h with
  | skip => cases hc
  | op _ h _ =>
    rcases aoper_cases h with ⟨h0, h1, _⟩ | ⟨h0, h1, _⟩ | ⟨h0, x, f, h1, h2, h3⟩ | h1
    · rw [h0] at hc; cases hc
    · rw [h0] at hc; cases hc
    · cases h1; exact ⟨x, f, h3, rfl, h2⟩
    · rw [h1] at hc; cases hc

/-- The number of the block that an operation makes. -/
theorem made_next (T : Txt tb run rd ops st fin rs) {i : Nat} {o : Oper} (ho : ops[i]? = some o) (h3 : clsAt rs i = 3) :
    (stAt rs fin (i + 1)).nz.mem.next = (stAt rs fin i).nz.mem.next + 1 ∧ ∃ x f, makes? tb (evalOp tb.ng (stAt rs fin i)) o = some (x, f) ∧ getBlk (stAt rs fin (i + 1)).nz.mem (stAt rs fin i).nz.mem.next = some x := by
  obtain ⟨r, r1, r2, r3, r4, hd⟩ := T.at ho
  obtain ⟨x, f, h1, h2, h4⟩ := hd.nz3 h3
  rw [h4]
  exact ⟨rfl, x, f, h1, by simp only; rw [getBlk_new, if_pos rfl]⟩

/-- An operation that changes memory, or makes a block as the next one. -/
theorem DInv.change (ht : TabOK tb) (hrun : RunSound tb run) (X : Txt tb run rd ops st fin rs) (N : Nums ops fin rs) (I : DInv tb ops μ0 W0 st fin rs b cs0 D c μ W a cs) (hg : Glob tb μ) (hro : RoundR μ rd b.roundOf) {i : Nat} {o : Oper} {ci : Nat} {v : Value} {nz : Nz}
    {tmps : T Value} {ρ : Operand → Value} (ho : ops[i]? = some o) (hDi : D i = false) (hp : ∀ p, Bef ops p i → D p = true) (hle : c ≤ i) (hci : clsAt rs i = 2 ∨ clsAt rs i = 3) (hop : aoper tb run rd ρ o (stAt rs fin i).nz = some (ci, .val v, nz)) (hρ : ∀ x, VR μ (ρ x) (a.eval x))
    (hnext : stAt rs fin (i + 1) = { stAt rs fin i with tmps, nz }) (hw : Region.wanted o (yielded ops a.tmps) = true) (htv : ∀ t, tv (stAt rs fin (i + 1)) t = if o.dst = some t then v else tv (stAt rs fin i) t) (hlt : ∀ t, o.dst = some t → t < st.nt) (rest : List Nat) :
    ∃ c' μ' W' a' cs', DInv tb ops μ0 W0 st fin rs b cs0 (fun j => D j || j == i) c' μ' W' a' cs' ∧ Steps tb.P (lone (Ab.mk b a (.inRegion ops (i :: rest) :: k)) cs W) (lone (Ab.mk b a' (.inRegion ops rest :: k)) cs' W') := by
  have hi := size_of_get ho
  have hs := I.still X ho hp hci
  obtain ⟨k1, k2, k3, k4⟩ := X.still N i hle (by omega) hs
  obtain ⟨hM, hE⟩ := k4 μ W I.mem
  obtain ⟨μ1, W1, defs1, e1, e2, e3, e4, e5, v', e6, e7⟩ := op_sound (b := b) (a := a) (k := k) (cs := cs) (ops := ops) (i := i) (rest := rest) (st := stAt rs fin i) ht hrun hop hg hM hρ (by rw [k2]; exact I.defs) (by rw [k3]; exact I.pan) hro ho hw
  have hnz : (stAt rs fin (i + 1)).nz = nz := by rw [hnext]
  obtain ⟨t1, t2⟩ := tmps_step (a1 := { a with defers := defs1 }) X I.closed ho hDi hp e1.le e6 htv hlt rfl I.tsize I.tmps
  refine ⟨i + 1, μ1, W1, ({ a with defers := defs1 } : Act).put o.dst v', afterRec (recd (stAt rs fin i).nz.pan nz.pan) cs, ?_, e7⟩
  exact {
    le := by omega
    cut := .inr ⟨i, rfl, by simp, hci⟩
    above := fun j hj hD => by
      have hne : (j == i) = false := by simp; omega
      rw [hne, Bool.or_false] at hD
      exact I.above j (by omega) hD
    closed := closed_step I.closed hp
    ext := by rw [hnz]; exact (hE _ _ _ I.ext).trans e1
    mem := by rw [hnz]; exact e2
    defs := by rw [hnz]; cases o.dst <;> exact e4
    pan := by rw [hnz]; exact e3
    cs_eq := by
      rw [hnz]
      have h1 := I.cs_eq
      rw [← k3] at h1
      rw [h1, afterRec_trans (by rw [k3]; exact I.panm) e5]
    panm := fun h => by
      rw [hnz] at h
      have := e5 h
      rw [k3] at this
      exact I.panm this
    ghosts := fun j oj hj hoj h3 hD => by
      rw [Bool.or_eq_false_iff] at hD
      have hne : j ≠ i := fun e => by have := hD.2; simp [e] at this
      have hji : j < i := by omega
      obtain ⟨m1, x, f, m2, m3⟩ := made_next X hoj h3
      have hnx : (stAt rs fin (j + 1)).nz.mem.next ≤ (stAt rs fin i).nz.mem.next := N.next _ _ (by omega) (by omega)
      have hlt2 : (stAt rs fin j).nz.mem.next < (stAt rs fin i).nz.mem.next := by omega
      have key : μ (stAt rs fin j).nz.mem.next = none ∧ getBlk (stAt rs fin i).nz.mem (stAt rs fin j).nz.mem.next = some x := by
        rcases Nat.lt_or_ge j c with hjc | hjc
        · obtain ⟨g1, g2⟩ := I.ghosts j oj hjc hoj h3 hD.1
          have hnc : (stAt rs fin (j + 1)).nz.mem.next ≤ (stAt rs fin c).nz.mem.next := N.next _ _ (by omega) I.le
          exact ⟨g1, by rw [k1 _ (by omega)]; exact g2 x f m2⟩
        · have hnc : (stAt rs fin c).nz.mem.next ≤ (stAt rs fin j).nz.mem.next := N.next _ _ hjc (by omega)
          refine ⟨?_, ?_⟩
          · cases hq : μ (stAt rs fin j).nz.mem.next with
            | none => rfl
            | some r => have := (I.mem.dom _ r hq).1; omega
          · obtain ⟨q1, _⟩ := X.still N (p := j + 1) i (by omega) (by omega) (fun p hp1 hp2 => hs p (by omega) hp2)
            rw [q1 _ (by omega)]
            exact m3
      refine ⟨by rw [e1.mu _ hlt2]; exact key.1, fun x' f' hx' => ?_⟩
      rw [m2] at hx'
      cases hx'
      rw [hnz, e1.ghost _ hlt2 key.1]
      exact key.2
    tsize := t1
    tmps := t2 }

/-- A block that text order has made gets its place. -/
theorem DInv.place (ht : TabOK tb) (X : Txt tb run rd ops st fin rs) (N : Nums ops fin rs) (I : DInv tb ops μ0 W0 st fin rs b cs0 D c μ W a cs) {i : Nat} {o : Oper} {x : Blk} {f : Nat → Value}
    {ρ : Operand → Value} (ho : ops[i]? = some o) (hDi : D i = false) (hp : ∀ p, Bef ops p i → D p = true) (hlt : i < c) (hci : clsAt rs i = 3) (hmk : makes? tb (evalOp tb.ng (stAt rs fin i)) o = some (x, f)) (hmk' : makes? tb ρ o = some (x, f)) (hρ : ∀ x, VR μ (ρ x) (a.eval x))
    (hw : Region.wanted o (yielded ops a.tmps) = true) (htv : ∀ t, tv (stAt rs fin (i + 1)) t = if o.dst = some t then f (stAt rs fin i).nz.mem.next else tv (stAt rs fin i) t) (hltt : ∀ t, o.dst = some t → t < st.nt) (rest : List Nat) :
    ∃ c' μ' W' a' cs', DInv tb ops μ0 W0 st fin rs b cs0 (fun j => D j || j == i) c' μ' W' a' cs' ∧ Steps tb.P (lone (Ab.mk b a (.inRegion ops (i :: rest) :: k)) cs W) (lone (Ab.mk b a' (.inRegion ops rest :: k)) cs' W') := by
  have hi := size_of_get ho
  have hle := I.le
  obtain ⟨g1, g2⟩ := I.ghosts i o hlt ho hci hDi
  have hblk := g2 x f hmk
  obtain ⟨W', v', rr, oo, h1, h2, h3, h4, h5, h6, h7⟩ := makes_sound ht hρ hmk' W
  obtain ⟨p1, p2⟩ := push_old h2
  have hmu := Mu.upd_le (b := (stAt rs fin i).nz.mem.next) (r := rr) g1
  obtain ⟨q1, q2⟩ := h7 (μ.upd (stAt rs fin i).nz.mem.next rr) (stAt rs fin i).nz.mem.next hmu Mu.upd_same
  have hn0 : st.nz.mem.next ≤ (stAt rs fin i).nz.mem.next := by
    have := N.next 0 i (by omega) (by omega)
    rw [X.zero] at this
    exact this
  obtain ⟨t1, t2⟩ := tmps_step (a1 := a) X I.closed ho hDi hp hmu q2 htv hltt rfl I.tsize I.tmps
  obtain ⟨m1, _⟩ := made_next X ho hci
  refine ⟨c, μ.upd (stAt rs fin i).nz.mem.next rr, W', a.put o.dst v', cs, ?_, .one (st_value ho hw (.inr (no_defer (m := start0) (.inr (.inr ⟨_, hmk'⟩)))) h1)⟩
  exact {
    le := hle
    cut := by
      rcases I.cut with h | ⟨p, h1, h2, h3⟩
      · exact .inl h
      · exact .inr ⟨p, h1, by rw [h2]; rfl, h3⟩
    above := fun j hj hD => by
      have hne : (j == i) = false := by simp; omega
      rw [hne, Bool.or_false] at hD
      exact I.above j hj hD
    closed := closed_step I.closed hp
    ext := I.ext.placeR hn0 g1 h4 p1 p2 h3
    mem := I.mem.place hblk g1 h4 p1 p2 q1
    defs := by cases o.dst <;> exact all2_defs I.defs hmu
    pan := I.pan.mono hmu
    cs_eq := I.cs_eq
    panm := I.panm
    ghosts := fun j oj hj hoj h3' hD => by
      rw [Bool.or_eq_false_iff] at hD
      have hne : j ≠ i := fun e => by have := hD.2; simp [e] at this
      obtain ⟨r1, r2⟩ := I.ghosts j oj hj hoj h3' hD.1
      refine ⟨?_, r2⟩
      obtain ⟨n1, _⟩ := made_next X hoj h3'
      rw [Mu.upd_ne]
      · exact r1
      · rcases Nat.lt_or_gt_of_ne hne with h | h
        · have := N.next (j + 1) i (by omega) (by omega); omega
        · have := N.next (i + 1) j (by omega) (by omega); omega
    tsize := t1
    tmps := t2 }

/-- Any operation whose predecessors are done. -/
theorem draw_step (ht : TabOK tb) (hrun : RunSound tb run) (X : Txt tb run rd ops st fin rs) (N : Nums ops fin rs) (I : DInv tb ops μ0 W0 st fin rs b cs0 D c μ W a cs) (hg : Glob tb μ) (hro : RoundR μ rd b.roundOf) {i : Nat} {o : Oper} (ho : ops[i]? = some o) (hDi : D i = false)
    (hp : ∀ p, Bef ops p i → D p = true) (rest : List Nat) :
    ∃ c' μ' W' a' cs', DInv tb ops μ0 W0 st fin rs b cs0 (fun j => D j || j == i) c' μ' W' a' cs' ∧ Steps tb.P (lone (mk b a (.inRegion ops (i :: rest) :: k)) cs W) (lone (mk b a' (.inRegion ops rest :: k)) cs' W') := by
  have hi := size_of_get ho
  obtain ⟨r, r1, r2, r3, r4, hd⟩ := X.at ho
  have hnt := X.nt i (by omega)
  obtain ⟨m, hm⟩ := Classical.axiomOfChoice I.tmps
  -- temporaries that the operation looks at
  have hlook : ∀ t, t ∈ looks ops o → tv (stAt rs fin (m t)) t = tv (stAt rs fin i) t := fun t ht =>
    look_same X I.closed ho hDi hp ht (hm t).1 (hm t).2.1 (hm t).2.2.1
  generalize hρd : (fun x : Operand => match x with | .tmp t => tv (stAt rs fin (m t)) t | x => evalOp tb.ng (stAt rs fin i) x) = ρ
  have hρ : ∀ x, VR μ (ρ x) (a.eval x) := by
    intro x
    rw [← hρd]
    have hdum := evalOp_sound (μ := μ) hg (st := { nt := 0, tmps := .nil, nz := st.nz }) (a := { tmps := #[], defers := [] }) ⟨rfl, fun t => by rw [T.get_nil]; simp only [undef]; exact .tuple rfl (by simp)⟩ x
    cases x with
    | tmp t => exact (hm t).2.2.2
    | const v => exact hdum
    | global g => exact hdum
    | func f => exact hdum
  have hagree : ∀ x ∈ o.op.operands, evalOp tb.ng (stAt rs fin i) x = ρ x := by
    intro x hx
    rw [← hρd]
    cases x with
    | tmp t =>
      refine (hlook t ?_).symm
      simp only [looks, List.mem_append, List.mem_filterMap]
      exact .inr (.inl ⟨.tmp t, by simpa using hx, rfl⟩)
    | const v => rfl
    | global g => rfl
    | func f => rfl
  have hwant : ∀ bw, wanted? ops (stAt rs fin i).tmps o = some bw → Region.wanted o (yielded ops a.tmps) = bw := by
    intro bw hw
    refine wanted_sound' (μ := μ) (fun j w g t h1 h2 h3 => ?_) hw
    have hl : t ∈ looks ops o := by simp [looks, h1, h2, h3]
    have h4 := (hm t).2.2.2
    rw [hlook t hl] at h4
    exact h4
  have htv := hd.tv
  have hlt : ∀ t, o.dst = some t → t < st.nt := fun t ht => by rw [← hnt]; exact hd.dst_lt ht
  have hlow : clsAt rs i = 2 → c ≤ i := fun h2 => by
    rcases Nat.lt_or_ge i c with h | h
    · rw [I.below2 X h h2] at hDi; cases hDi
    · exact h
  generalize hcls : clsAt rs i = ci at hd
  generalize hval : r.val = v at hd htv
  generalize hnext : stAt rs fin (i + 1) = s1 at hd
  cases hd with
  | skip hw hput =>
    exact ⟨c, μ, W, a.put o.dst undef, cs, I.keep X ho hDi hp (by rw [hcls]; simp) (v := undef) (v' := undef) (by unfold undef; exact .tuple rfl (by simp)) htv hlt, .one (st_op_skip ho (hwant _ hw))⟩
  | op hw hop hput =>
    rename_i nz tmps
    have hw' := hwant _ hw
    rcases aoper_cases hop with ⟨rfl, h1, v0, h2, h3⟩ | ⟨rfl, h1, v0, h2, h3⟩ | ⟨rfl, x, f, h1, h2, h3⟩ | rfl
    · cases h2
      rw [apure_congr hagree] at h3
      obtain ⟨v', g1, g2⟩ := apure_sound ht hρ h3 W
      exact ⟨c, μ, W, a.put o.dst v', cs, I.keep X ho hDi hp (by rw [hcls]; simp) g2 htv hlt, .one (st_value ho hw' (.inr (no_defer (m := start0) (.inl ⟨_, h3⟩))) g1)⟩
    · cases h2
      obtain ⟨M, g1, g2⟩ := I.reads X N ho r1 r2 r3 hcls hDi hp (by rw [hval]; exact h3)
      rw [hval, aread_congr hagree] at g2
      obtain ⟨v', g3, g4⟩ := aread_sound ht g1 hρ g2
      exact ⟨c, μ, W, a.put o.dst v', cs, I.keep X ho hDi hp (by rw [hcls]; simp) g4 htv hlt, .one (st_value ho hw' (.inr (no_defer (.inr (.inl ⟨_, g2⟩)))) g3)⟩
    · cases h1
      rcases Nat.lt_or_ge i c with hic | hic
      · exact I.place ht X N ho hDi hp hic hcls h3 (by rw [← makes_congr hagree]; exact h3) hρ hw' htv hlt rest
      · exact I.change ht hrun X N hg hro ho hDi hp hic (.inr hcls) (by rw [← aoper_congr hagree]; exact hop) hρ hnext hw' htv hlt rest
    · exact I.change ht hrun X N hg hro ho hDi hp (hlow hcls) (.inl hcls) (by rw [← aoper_congr hagree]; exact hop) hρ hnext hw' htv hlt rest

theorem filter_less {n i : Nat} {p q : Nat → Bool} (hi : i < n) (hpi : p i = true) (hqi : q i = false) (h : ∀ j, q j = true → p j = true) : ((List.range n).filter q).length < ((List.range n).filter p).length := by
  have e : (List.range n).filter q = ((List.range n).filter p).filter q := by
    rw [List.filter_filter]
    refine List.filter_congr fun j _ => ?_
    cases hq : q j with
    | false => rfl
    | true => rw [h j hq]; rfl
  rw [e]
  refine List.length_filter_lt_length_iff_exists.2 ⟨i, List.mem_filter.2 ⟨List.mem_range.2 hi, hpi⟩, by simp [hqi]⟩

theorem draw_go (ht : TabOK tb) (hrun : RunSound tb run) (X : Txt tb run rd ops st fin rs) (N : Nums ops fin rs) (hg : Glob tb μ0) (hro : RoundR μ0 rd b.roundOf) {md : Region.Mode} (hR : Ranked md ops) : ∀ (fuel t : Nat) (listed : Array Bool) (c : Nat) (μ : Mu) (W : World) (a : Act) (cs : List Frame),
    listed.size = ops.size → ((List.range ops.size).filter fun i => !listed.getD i false).length ≤ fuel → DInv tb ops μ0 W0 st fin rs b cs0 (fun i => listed.getD i false) c μ W a cs →
    ∃ c' μ' W' a' cs' D', DInv tb ops μ0 W0 st fin rs b cs0 D' c' μ' W' a' cs' ∧ (∀ i, i < ops.size → D' i = true) ∧
      Steps tb.P (lone (mk b a (.inRegion ops (Region.linearise.go md ops fuel t listed []) :: k)) cs W) (lone (mk b a' (.inRegion ops [] :: k)) cs' W') := by
  intro fuel
  induction fuel with
  | zero =>
    intro t listed c μ W a cs hsz hcount I
    refine ⟨c, μ, W, a, cs, _, I, fun i hi => ?_, .refl _ _⟩
    have hnil := List.length_eq_zero_iff.1 (Nat.le_zero.1 hcount)
    cases hl : listed.getD i false with
    | true => rfl
    | false =>
      have : i ∈ (List.range ops.size).filter fun i => !listed.getD i false := List.mem_filter.2 ⟨List.mem_range.2 hi, by rw [hl]; rfl⟩
      rw [hnil] at this
      cases this
  | succ fuel ih =>
    intro t listed c μ W a cs hsz hcount I
    simp only [Region.linearise.go]
    change ∃ c' μ' W' a' cs' D', DInv tb ops μ0 W0 st fin rs b cs0 D' c' μ' W' a' cs' ∧ (∀ i, i < ops.size → D' i = true) ∧
      Steps tb.P (lone (mk b a (.inRegion ops (match (Region.ready md ops listed)[t % (Region.ready md ops listed).length]? with
        | some i => Region.linearise.go md ops fuel (t / (Region.ready md ops listed).length) (listed.setIfInBounds i true) [i]
        | none => [].reverse) :: k)) cs W) (lone (mk b a' (.inRegion ops [] :: k)) cs' W')
    cases hi : (Region.ready md ops listed)[t % (Region.ready md ops listed).length]? with
    | none =>
      have hnil : Region.ready md ops listed = [] := by
        cases hr : Region.ready md ops listed with
        | nil => rfl
        | cons x xs =>
          rw [hr] at hi
          have hlt : t % (x :: xs).length < (x :: xs).length := Nat.mod_lt _ (by simp)
          simp at hi
          simp at hlt
          omega
      exact ⟨c, μ, W, a, cs, _, I, ready_nil hR hsz hnil, .refl _ _⟩
    | some i =>
      simp only []
      obtain ⟨h1, h2, o, ho, h3⟩ := ready_spec (List.mem_of_getElem? hi)
      have hDi : listed.getD i false = false := by
        have : i < listed.size := by omega
        simpa [this] using h2
      rw [linearise_go_acc, List.reverse_singleton, List.singleton_append]
      have hpre : ∀ p, Bef ops p i → listed.getD p false = true := by
        intro p hp
        obtain ⟨e, g1, g2, g3⟩ := before_spec ho hp
        have he := h3 e g1 (binds_any g2)
        rcases g3 with rfl | g3
        · exact he
        · have hlt : e.on < ops.size := by
            rw [← hsz]
            rcases Nat.lt_or_ge e.on listed.size with hlt | hge
            · exact hlt
            · simp [hge] at he
          exact I.closed p e.on hlt he g3
      obtain ⟨c1, μ1, W1, a1, cs1, I1, s1⟩ := draw_step (k := k) ht hrun X N I (hg.mono tb I.ext.le) (hro.mono I.ext.le) ho hDi hpre (Region.linearise.go md ops fuel (t / (Region.ready md ops listed).length) (listed.setIfInBounds i true) [])
      have hD : (fun j => listed.getD j false || j == i) = fun j => (listed.setIfInBounds i true).getD j false := by
        funext j
        by_cases hj : j = i
        · subst hj
          have : j < listed.size := by omega
          simp [this]
        · have hne : (j == i) = false := by simpa using hj
          simp [hne, Ne.symm hj]
      rw [hD] at I1
      have hless : ((List.range ops.size).filter fun j => !(listed.setIfInBounds i true).getD j false).length < ((List.range ops.size).filter fun j => !listed.getD j false).length := by
        refine filter_less (i := i) h1 (by rw [hDi]; rfl) ?_ fun j hj => ?_
        · have : i < listed.size := by omega
          simp [this]
        · have := congrFun hD j
          rw [← this] at hj
          cases hl : listed.getD j false with
          | false => rfl
          | true => rw [hl] at hj; simp at hj
      obtain ⟨c2, μ2, W2, a2, cs2, D2, I2, h5, s2⟩ := ih _ _ c1 μ1 W1 a1 cs1 (by simp [hsz]) (by omega) I1
      exact ⟨c2, μ2, W2, a2, cs2, D2, I2, h5, s1.trans s2⟩

/-- A region in any order. -/
theorem region_draw (ht : TabOK tb) (hrun : RunSound tb run) {id : Nat} {ex : Ex} {st' : St} (h : aregion tb run rd ops true st = some (ex, st')) (hg : Glob tb μ) (hS : StR μ W st a) (hpan : PanR μ st.nz.pan b.kind cs) (hro : RoundR μ rd b.roundOf) :
    Goes μ W st b cs st' (Ends tb.P (lone (mk b a (.code (.region id ops true) :: k)) cs W) b k ex) := by
  unfold aregion at h
  split at h
  · rename_i recs st1 hops
    simp only [cond_true] at h
    obtain ⟨hok, h2⟩ := bif_some h
    cases h2
    obtain ⟨rs, e1, e2, e3, e4⟩ := aops_chain _ _ _ _ _ hops
    simp only [List.reverse_nil, List.nil_append] at e1
    unfold orderOk at hok
    simp only [Bool.and_eq_true] at hok
    rw [e1] at hok
    have X : Txt tb run rd ops st st' rs := ⟨by simpa using e2, e3, fun i o ho => e4 i o (by simpa using ho), hok.1.1, hok.2⟩
    have N := X.nums ht hrun hg hS hpan hro
    have hst := st_region_draw (P := tb.P) (b := b) (a := a) (k := k) (cs := cs) (w := W) (id := id) (ops := ops)
    obtain ⟨md, t', hsch, hR⟩ := schedule_form hok.1.2 (tb.P.follows .mixedOrders) (W.tape W.drawn (.order b.fn id))
    rw [hsch] at hst
    have hheap : ({ W with drawn := W.drawn + 1 } : World).heap = W.heap := rfl
    have I0 : DInv tb ops μ W st st' rs b cs (fun i => (Array.replicate ops.size false).getD i false) 0 μ { W with drawn := W.drawn + 1 } a cs := {
      le := Nat.zero_le _
      cut := .inl rfl
      above := fun i _ hD => by simp [Array.getElem?_replicate] at hD; split at hD <;> cases hD
      closed := fun i j _ hD _ => by simp [Array.getElem?_replicate] at hD; split at hD <;> cases hD
      ext := by rw [X.zero]; exact Ext.heap hheap ⟨rfl, rfl, rfl⟩
      mem := by rw [X.zero]; exact hS.mem.heap hheap
      defs := by rw [X.zero]; exact hS.defs
      pan := by rw [X.zero]; exact hpan
      cs_eq := by rw [X.zero, afterRec_same]
      panm := by rw [X.zero]; exact fun h => h
      ghosts := fun i o hi => by omega
      tsize := hS.tmps.size
      tmps := fun t => ⟨0, Nat.zero_le _, fun i o hi => by omega, fun i o _ _ _ => by simp [Array.getElem?_replicate]; split <;> rfl, by rw [X.zero]; exact hS.tmps.at_ t⟩ }
    have hcount : ((List.range ops.size).filter fun i => !(Array.replicate ops.size false).getD i false).length ≤ ops.size := Nat.le_trans (List.length_filter_le _ _) (by simp)
    obtain ⟨c, μ1, W1, a1, cs1, D1, I, hall, hgo⟩ := draw_go (k := k) ht hrun X N hg hro hR ops.size t' (Array.replicate ops.size false) 0 μ _ a cs (by simp) hcount I0
    have hstill : Still rs c ops.size := fun i h1 h2 => (I.above i h1 (hall i h2)).1
    obtain ⟨k1, k2, k3, k4⟩ := X.still N ops.size I.le (Nat.le_refl _) hstill
    obtain ⟨hM, hE⟩ := k4 μ1 W1 I.mem
    have hext := hE _ _ _ I.ext
    rw [X.end_] at k2 k3 hM hext
    have hnt : st'.nt = st.nt := by
      have := X.nt ops.size (Nat.le_refl _)
      rw [X.end_] at this
      exact this
    have hcs := I.cs_eq
    have hpn := I.pan
    have hpm := I.panm
    rw [← k3] at hcs hpn hpm
    rw [hcs] at hpn hgo
    refine ⟨μ1, W1, a1, hext, ⟨hM, ⟨by rw [hnt]; exact I.tsize, fun t => ?_⟩, by rw [k2]; exact I.defs⟩, hpn, hpm, hnt, Steps.head hst (Steps.trans hgo (.one st_region_end))⟩
    obtain ⟨m, h1, h2, h3, h4⟩ := I.tmps t
    have := X.tv ops.size h1 (Nat.le_refl _) fun i o hi1 hi2 hio hd => by
      have := h3 i o hi1 hio hd
      rw [hall i hi2] at this
      cases this
    rw [X.end_] at this
    rw [← this] at h4
    exact h4
  · rename_i recs v st1 hops
    simp only [cond_true] at h
    cases h
  · cases h

end
end Go.Ab
