import Derived.Test.YtjjlhemenokdhaaGreatAbGhost
namespace Go.Ab

section
variable {tb : Tab} {run : Runner} {rd : Option Nat} {ops : Array Oper} {μ μ0 : Mu} {W W0 : World} {st fin : St} {rs : List Rec} {a : Act} {b : Frame} {cs cs0 : List Frame} {k : List Item}

/-- Operation i comes before j in every order. -/
def Bef (ops : Array Oper) (i j : Nat) : Prop := ((Region.before ops).getD j 0).testBit i = true

theorem ordered_lt {i j : Nat} (h : ordered (Region.before ops) i j = true) (hl : i < j) : Bef ops i j := by
  unfold ordered at h
  have : Nat.blt i j = true := by
    have h2 : i + 1 ≤ j := hl
    exact Nat.ble_eq ▸ h2
  rw [this] at h
  exact h

theorem ordered_gt {i j : Nat} (h : ordered (Region.before ops) i j = true) (hl : j < i) : Bef ops j i := by
  unfold ordered at h
  have : Nat.blt i j = false := by
    cases hb : Nat.blt i j with
    | false => rfl
    | true => have := lt_of_blt hb; omega
  rw [this] at h
  exact h

/-- Some operations are done: D; c: behind the last one that made or changed a block. -/
structure DInv (tb : Tab) (ops : Array Oper) (μ0 : Mu) (W0 : World) (st fin : St) (rs : List Rec) (b : Frame) (cs0 : List Frame) (D : Nat → Bool) (c : Nat) (μ : Mu) (W : World) (a : Act) (cs : List Frame) : Prop where
  le : c ≤ ops.size
  cut : c = 0 ∨ ∃ p, c = p + 1 ∧ D p = true ∧ (clsAt rs p = 2 ∨ clsAt rs p = 3)
  above : ∀ i, c ≤ i → D i = true → clsAt rs i ≠ 2 ∧ clsAt rs i ≠ 3
  closed : ∀ i j, j < ops.size → D j = true → Bef ops i j → D i = true
  ext : Ext μ0 st.nz.mem W0 μ (stAt rs fin c).nz.mem W
  mem : MemR μ (stAt rs fin c).nz.mem W
  defs : All2 (DefR μ) (stAt rs fin c).nz.defs a.defers
  pan : PanR μ (stAt rs fin c).nz.pan b.kind cs
  cs_eq : cs = afterRec (recd st.nz.pan (stAt rs fin c).nz.pan) cs0
  panm : (stAt rs fin c).nz.pan.isSome = true → st.nz.pan.isSome = true
  ghosts : ∀ i o, i < c → ops[i]? = some o → clsAt rs i = 3 → D i = false → μ (stAt rs fin i).nz.mem.next = none ∧
    ∀ x f, makes? tb (evalOp tb.ng (stAt rs fin i)) o = some (x, f) → getBlk (stAt rs fin c).nz.mem (stAt rs fin i).nz.mem.next = some x
  tsize : a.tmps.size = st.nt
  tmps : ∀ t, ∃ m, m ≤ ops.size ∧ (∀ i o, i < m → ops[i]? = some o → o.dst = some t → D i = true) ∧ (∀ i o, m ≤ i → ops[i]? = some o → o.dst = some t → D i = false) ∧ VR μ (tv (stAt rs fin m) t) (a.tmps.getD t undef)

variable {D : Nat → Bool} {c : Nat}

/-- A temporary that an operation looks at is what it was in text order. -/
theorem look_same (T : Txt tb run rd ops st fin rs) {i m : Nat} {o : Oper} {t : Tmp} (hcl : ∀ i j, j < ops.size → D j = true → Bef ops i j → D i = true) (ho : ops[i]? = some o) (hDi : D i = false) (hp : ∀ p, Bef ops p i → D p = true) (hl : t ∈ looks ops o)
    (hm : m ≤ ops.size) (h1 : ∀ i o, i < m → ops[i]? = some o → o.dst = some t → D i = true) (h2 : ∀ i o, m ≤ i → ops[i]? = some o → o.dst = some t → D i = false) : tv (stAt rs fin m) t = tv (stAt rs fin i) t := by
  have hi := size_of_get ho
  rcases Nat.le_total m i with hle | hle
  · refine (T.tv i hle (by omega) fun j p hj1 hj2 hjp hd => ?_).symm
    have h3 := h2 j p hj1 hjp hd
    have h4 := ordered_gt (tempsOk_spec T.temps ho hjp hd hl (by omega)) (by omega)
    rw [hp j h4] at h3
    cases h3
  · refine T.tv m hle hm fun j p hj1 hj2 hjp hd => ?_
    have h3 := h1 j p hj2 hjp hd
    rcases Nat.eq_or_lt_of_le hj1 with rfl | hlt
    · rw [hDi] at h3; cases h3
    · have h4 := ordered_lt (tempsOk_spec T.temps ho hjp hd hl (by omega)) hlt
      rw [hcl i j (size_of_get hjp) h3 h4] at hDi
      cases hDi

/-- Temporaries behind an operation. -/
theorem tmps_step (T : Txt tb run rd ops st fin rs) {i : Nat} {o : Oper} {v v' : Value} {μ' : Mu} {a1 : Act} (hcl : ∀ i j, j < ops.size → D j = true → Bef ops i j → D i = true) (ho : ops[i]? = some o) (hDi : D i = false) (hp : ∀ p, Bef ops p i → D p = true)
    (hle : μ.le μ') (hv : VR μ' v v') (htv : ∀ t, tv (stAt rs fin (i + 1)) t = if o.dst = some t then v else tv (stAt rs fin i) t) (hlt : ∀ t, o.dst = some t → t < st.nt) (ha : a1.tmps = a.tmps) (hsz : a.tmps.size = st.nt)
    (h : ∀ t, ∃ m, m ≤ ops.size ∧ (∀ i o, i < m → ops[i]? = some o → o.dst = some t → D i = true) ∧ (∀ i o, m ≤ i → ops[i]? = some o → o.dst = some t → D i = false) ∧ VR μ (tv (stAt rs fin m) t) (a.tmps.getD t undef)) :
    (a1.put o.dst v').tmps.size = st.nt ∧
    ∀ t, ∃ m, m ≤ ops.size ∧ (∀ j o, j < m → ops[j]? = some o → o.dst = some t → (D j || j == i) = true) ∧ (∀ j o, m ≤ j → ops[j]? = some o → o.dst = some t → (D j || j == i) = false) ∧
      VR μ' (tv (stAt rs fin m) t) ((a1.put o.dst v').tmps.getD t undef) := by
  have hi := size_of_get ho
  refine ⟨by cases o.dst <;> simp [Act.put, ha, hsz], fun t => ?_⟩
  by_cases ht : o.dst = some t
  · have hlk : t ∈ looks ops o := by simp [looks, ht]
    refine ⟨i + 1, by omega, fun j p hj hjp hd => ?_, fun j p hj hjp hd => ?_, ?_⟩
    · rcases Nat.eq_or_lt_of_le (Nat.le_of_lt_succ hj) with rfl | hlt'
      · simp
      · rw [hp j (ordered_gt (tempsOk_spec T.temps ho hjp hd hlk (by omega)) hlt')]; rfl
    · have hne : (j == i) = false := by simp; omega
      cases hDj : D j with
      | false => simp [hne]
      | true =>
        rw [hcl i j (size_of_get hjp) hDj (ordered_lt (tempsOk_spec T.temps ho hjp hd hlk (by omega)) (by omega))] at hDi
        cases hDi
    · rw [htv t, if_pos ht]
      have h1 : t < a.tmps.size := by rw [hsz]; exact hlt t ht
      simpa [Act.put, ht, ha, h1] using hv
  · obtain ⟨m, h1, h2, h3, h4⟩ := h t
    refine ⟨m, h1, fun j p hj hjp hd => by rw [h2 j p hj hjp hd]; rfl, fun j p hj hjp hd => ?_, ?_⟩
    · have hne : (j == i) = false := by
        cases hb : j == i with
        | false => rfl
        | true =>
          have : j = i := by simpa using hb
          subst this
          rw [ho] at hjp
          cases hjp
          exact absurd hd ht
      rw [h3 j p hj hjp hd, hne]; rfl
    · have : (a1.put o.dst v').tmps.getD t undef = a.tmps.getD t undef := by
        cases hd : o.dst with
        | none => simp [Act.put, ha]
        | some d =>
          have hne : d ≠ t := fun e => ht (by rw [hd, e])
          simp [Act.put, ha, hne]
      rw [this]
      exact h4.mono hle

/-- A class-2 operation below the cut is done. -/
theorem DInv.below2 (T : Txt tb run rd ops st fin rs) (I : DInv tb ops μ0 W0 st fin rs b cs0 D c μ W a cs) {j : Nat} (hj : j < c) (h2 : clsAt rs j = 2) : D j = true := by
  rcases I.cut with h0 | ⟨p, hp, hDp, hc⟩
  · omega
  · rcases Nat.eq_or_lt_of_le (show j ≤ p by omega) with rfl | hlt
    · exact hDp
    · have hle := I.le
      obtain ⟨oj, hoj⟩ := get_of_size (x := ops) (i := j) (by omega)
      obtain ⟨op, hop⟩ := get_of_size (x := ops) (i := p) (by omega)
      obtain ⟨r, r1, _, _, r4, _⟩ := T.at hoj
      obtain ⟨q, q1, _, _, q4, _⟩ := T.at hop
      have hpair := pairs_spec T.pairs r1 (by rw [r4]; exact h2) q1
      rcases pair_spec hpair (by omega) (by rw [q4]; rcases hc with h | h <;> rw [h] <;> simp) (fun h => by omega) with ho | ⟨h1, _⟩
      · exact I.closed j p (by omega) hDp (ordered_gt ho hlt)
      · rw [q4] at h1
        rcases hc with h | h <;> rw [h] at h1 <;> cases h1

/-- What an operation that is now to be done needs: between the cut and it memory stands still. -/
theorem DInv.still (T : Txt tb run rd ops st fin rs) (I : DInv tb ops μ0 W0 st fin rs b cs0 D c μ W a cs) {i : Nat} {o : Oper} (ho : ops[i]? = some o) (hp : ∀ p, Bef ops p i → D p = true) (hci : clsAt rs i = 2 ∨ clsAt rs i = 3) : Still rs c i := by
  intro j hj1 hj2 h2
  have hi := size_of_get ho
  obtain ⟨oj, hoj⟩ := get_of_size (x := ops) (i := j) (by omega)
  obtain ⟨r, r1, _, _, r4, _⟩ := T.at hoj
  obtain ⟨q, q1, _, _, q4, _⟩ := T.at ho
  have hpair := pairs_spec T.pairs r1 (by rw [r4]; exact h2) q1
  rcases pair_spec hpair (by omega) (by rw [q4]; rcases hci with h | h <;> rw [h] <;> simp) (fun h => by omega) with ho' | ⟨h1, _⟩
  · have hD := hp j (ordered_gt ho' hj2)
    exact (I.above j hj1 hD).1 h2
  · rw [q4] at h1
    rcases hci with h | h <;> rw [h] at h1 <;> cases h1

theorem least {p : Nat → Prop} {a b : Nat} (h : ∃ i, a ≤ i ∧ i < b ∧ p i) : ∃ i, a ≤ i ∧ i < b ∧ p i ∧ ∀ j, a ≤ j → j < i → ¬ p j := by
  obtain ⟨i, h1, h2, h3⟩ := h
  induction i using Nat.strongRecOn with
  | ind i ih =>
    by_cases hq : ∃ j, a ≤ j ∧ j < i ∧ p j
    · obtain ⟨j, g1, g2, g3⟩ := hq
      exact ih j g2 g1 (by omega) g3
    · exact ⟨i, h1, h2, h3, fun j g1 g2 g3 => hq ⟨j, g1, g2, g3⟩⟩

theorem greatest {p : Nat → Prop} {a b : Nat} (h : ∃ i, a ≤ i ∧ i < b ∧ p i) : ∃ i, a ≤ i ∧ i < b ∧ p i ∧ ∀ j, i < j → j < b → ¬ p j := by
  obtain ⟨i, h1, h2, h3⟩ := h
  generalize hn : b - i = n
  induction n using Nat.strongRecOn generalizing i with
  | ind n ih =>
    by_cases hq : ∃ j, i < j ∧ j < b ∧ p j
    · obtain ⟨j, g1, g2, g3⟩ := hq
      exact ih (b - j) (by omega) j (by omega) g2 g3 rfl
    · exact ⟨i, h1, h2, h3, fun j g1 g2 g3 => hq ⟨j, g1, g2, g3⟩⟩

/-- What is read in text order is read now. -/
theorem DInv.reads (T : Txt tb run rd ops st fin rs) (N : Nums ops fin rs) (I : DInv tb ops μ0 W0 st fin rs b cs0 D c μ W a cs) {i : Nat} {o : Oper} {r : Rec} (ho : ops[i]? = some o) (hr : rs[i]? = some r) (hop : r.op = o) (hrs : r.st = stAt rs fin i) (hcl : clsAt rs i = 1) (hDi : D i = false)
    (hp : ∀ p, Bef ops p i → D p = true) (hv : aread tb (evalOp tb.ng (stAt rs fin i)) o (stAt rs fin i).nz.mem = some r.val) :
    ∃ M, ReadR μ M W ∧ aread tb (evalOp tb.ng (stAt rs fin i)) o M = some r.val := by
  have hi := size_of_get ho
  have hle := I.le
  have hrc : r.cls = 1 := by simp [clsAt, hr] at hcl; exact hcl
  -- what the table says of an operation that changes memory and is not ordered
  have hsee : ∀ j, j < ops.size → clsAt rs j = 2 → j ≠ i → (j < i → D j = false) → (i < j → D j = true) →
      aread tb (evalOp tb.ng (stAt rs fin i)) o (stAt rs fin j).nz.mem = some r.val ∧ aread tb (evalOp tb.ng (stAt rs fin i)) o (stAt rs fin (j + 1)).nz.mem = some r.val := by
    intro j hj h2 hne hlt hgt
    obtain ⟨oj, hoj⟩ := get_of_size (x := ops) (i := j) hj
    obtain ⟨q, q1, _, q3, q4, _⟩ := T.at hoj
    have hpair := pairs_spec T.pairs q1 (by rw [q4]; exact h2) hr
    rcases pair_spec hpair (Ne.symm hne) (by rw [hrc]; simp) (fun h => by rw [hrc] at h; exact absurd h.1 (by simp)) with ho' | ⟨_, s1, s2⟩
    · exfalso
      rcases Nat.lt_or_gt_of_ne hne with h | h
      · have := hp j (ordered_gt ho' h)
        rw [hlt h] at this; cases this
      · have := I.closed i j hj (hgt h) (ordered_lt ho' h)
        rw [hDi] at this; cases this
    · have e1 := sees_spec s1
      have e2 := sees_spec s2
      rw [hop, hrs] at e1 e2
      rw [q3] at e1
      exact ⟨e1, e2⟩
  have hup : ∀ q, c ≤ q → q ≤ ops.size → Still rs c q → ReadR μ (stAt rs fin q).nz.mem W := fun q h1 h2 h3 => ((T.still N q h1 h2 h3).2.2.2 μ W I.mem).1.toReadR
  have hdown : ∀ q, q ≤ c → Still rs q c → ReadR μ (stAt rs fin q).nz.mem W := fun q h1 h2 => ⟨fun B x r hx hB => by
    have hlt : B < (stAt rs fin q).nz.mem.next := by
      rcases Nat.lt_or_ge B (stAt rs fin q).nz.mem.next with h | h
      · exact h
      · rw [N.past q (by omega) B h] at hx; cases hx
    exact I.mem.blk B x r (by rw [(T.still N c h1 hle h2).1 B hlt]; exact hx) hB⟩
  rcases Nat.le_total c i with hci | hci
  · by_cases hq : ∃ j, c ≤ j ∧ j < i ∧ clsAt rs j = 2
    · obtain ⟨j, g1, g2, g3, g4⟩ := least (p := fun j => clsAt rs j = 2) hq
      refine ⟨_, hup j g1 (by omega) (fun p hp1 hp2 => g4 p hp1 hp2), (hsee j (by omega) g3 (by omega) (fun _ => ?_) (fun h => by omega)).1⟩
      cases hD : D j with
      | false => rfl
      | true => exact absurd g3 (I.above j g1 hD).1
    · exact ⟨_, hup i hci (by omega) (fun p hp1 hp2 h2 => hq ⟨p, hp1, hp2, h2⟩), hv⟩
  · by_cases hq : ∃ j, i ≤ j ∧ j < c ∧ clsAt rs j = 2
    · obtain ⟨j, g1, g2, g3, g4⟩ := greatest (p := fun j => clsAt rs j = 2) hq
      have hne : j ≠ i := fun e => by subst e; rw [hcl] at g3; cases g3
      exact ⟨_, hdown (j + 1) (by omega) (fun p hp1 hp2 => g4 p (by omega) hp2), (hsee j (by omega) g3 hne (fun h => by omega) (fun _ => I.below2 T g2 g3)).2⟩
    · exact ⟨_, hdown i hci (fun p hp1 hp2 h2 => hq ⟨p, hp1, hp2, h2⟩), hv⟩

end
end Go.Ab
