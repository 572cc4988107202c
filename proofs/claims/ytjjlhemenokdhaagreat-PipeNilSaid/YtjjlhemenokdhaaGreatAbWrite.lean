import Derived.Test.YtjjlhemenokdhaaGreatAbRead2
namespace Go.Ab

/-- May what lies there be written? -/
def wr : Blk → Bool
  | .cells _ _ _ _ ro _ _ => !ro
  | .dead => false
  | _ => true

def Own (μ : Mu) (M : Mem) (c : Nat) : Prop := ∃ B r x, μ B = some r ∧ getBlk M B = some x ∧ wr x = true ∧ r.blk = c

structure WSame (W W' : World) : Prop where
  os : W'.os = W.os
  output : W'.output = W.output
  tape : W'.tape = W.tape

theorem WSame.rfl {W : World} : WSame W W := ⟨_root_.rfl, _root_.rfl, _root_.rfl⟩
theorem WSame.trans {W W' W'' : World} (h : WSame W W') (k : WSame W' W'') : WSame W W'' := ⟨k.os.trans h.os, k.output.trans h.output, k.tape.trans h.tape⟩

/-- What a run leaves alone. -/
structure Ext (μ : Mu) (M : Mem) (W : World) (μ' : Mu) (M' : Mem) (W' : World) : Prop where
  nx : M.next ≤ M'.next
  mu : ∀ B, B < M.next → μ' B = μ B
  le : μ.le μ'
  ghost : ∀ B, B < M.next → μ B = none → getBlk M' B = getBlk M B
  hp : W.heap.size ≤ W'.heap.size
  own : ∀ c, c < W.heap.size → Own μ' M' c → Own μ M c
  keep : ∀ c, c < W.heap.size → ¬ Own μ M c → W'.heap[c]? = W.heap[c]?
  same : WSame W W'

theorem Ext.rfl {μ : Mu} {M : Mem} {W : World} : Ext μ M W μ M W :=
  ⟨Nat.le_refl _, fun _ _ => _root_.rfl, Mu.le.rfl, fun _ _ _ => _root_.rfl, Nat.le_refl _, fun _ _ h => h, fun _ _ _ => _root_.rfl, WSame.rfl⟩

theorem Ext.trans {μ μ' μ'' : Mu} {M M' M'' : Mem} {W W' W'' : World} (h : Ext μ M W μ' M' W') (k : Ext μ' M' W' μ'' M'' W'') : Ext μ M W μ'' M'' W'' where
  nx := Nat.le_trans h.nx k.nx
  mu := fun B hB => (k.mu B (Nat.lt_of_lt_of_le hB h.nx)).trans (h.mu B hB)
  le := h.le.trans k.le
  ghost := fun B hB hn => (k.ghost B (Nat.lt_of_lt_of_le hB h.nx) ((h.mu B hB).trans hn)).trans (h.ghost B hB hn)
  hp := Nat.le_trans h.hp k.hp
  own := fun c hc ho => h.own c hc (k.own c (Nat.lt_of_lt_of_le hc h.hp) ho)
  keep := fun c hc hn => (k.keep c (Nat.lt_of_lt_of_le hc h.hp) fun ho => hn (h.own c hc ho)).trans (h.keep c hc hn)
  same := h.same.trans k.same

theorem getBlk_set (M : Mem) (b c : Nat) (x : Blk) : getBlk (setBlk M b x) c = if c = b then some x else getBlk M c := T.get_set _ _ _ _
theorem getBlk_new (M : Mem) (c : Nat) (x : Blk) : getBlk (newBlk M x).2 c = if c = M.next then some x else getBlk M c := T.get_set _ _ _ _
theorem newBlk_fst (M : Mem) (x : Blk) : (newBlk M x).1 = M.next := rfl
theorem newBlk_next (M : Mem) (x : Blk) : (newBlk M x).2.next = M.next + 1 := rfl

variable {μ : Mu} {M : Mem} {W W' : World}

theorem MemR.fresh (h : MemR μ M W) : μ M.next = none := by
  cases e : μ M.next with
  | none => rfl
  | some r => have := (h.dom _ _ e).1; omega

/-- A block that nothing stands for yet. -/
theorem MemR.ghost (h : MemR μ M W) (x : Blk) : MemR μ (newBlk M x).2 W where
  dom := fun B r hB => ⟨by rw [newBlk_next]; have := (h.dom B r hB).1; omega, (h.dom B r hB).2⟩
  blk := fun B y r hb hB => by
    rw [getBlk_new] at hb
    split at hb
    · rename_i e; subst e; rw [h.fresh] at hB; cases hB
    · exact h.blk B y r hb hB
  inj := fun B C y z r s hne hb hy hc hz hB hC => by
    rw [getBlk_new] at hb hc
    split at hb
    · rename_i e; subst e; rw [h.fresh] at hB; cases hB
    · split at hc
      · rename_i e; subst e; rw [h.fresh] at hC; cases hC
      · exact h.inj B C y z r s hne hb hy hc hz hB hC
  past := fun B hB => by
    rw [newBlk_next] at hB
    rw [getBlk_new, if_neg (by omega)]
    exact h.past B (by omega)

def Mu.upd (μ : Mu) (b : Nat) (r : Ref) : Mu := fun B => if B = b then some r else μ B

theorem Mu.upd_le {b : Nat} {r : Ref} (h : μ b = none) : μ.le (μ.upd b r) := fun B s hs => by
  unfold Mu.upd
  split
  · rename_i e; subst e; rw [h] at hs; cases hs
  · exact hs
theorem Mu.upd_same {b : Nat} {r : Ref} : μ.upd b r b = some r := by simp [Mu.upd]
theorem Mu.upd_ne {b c : Nat} {r : Ref} (h : c ≠ b) : μ.upd b r c = μ c := by simp [Mu.upd, h]

/-- A block of the executor's gets its place in a new block of the world's. -/
theorem MemR.place (h : MemR μ M W) {b : Nat} {x : Blk} {r : Ref} (hb : getBlk M b = some x) (hn : μ b = none) (hr : r.blk = W.heap.size) (hsz : W'.heap.size = W.heap.size + 1) (hold : ∀ c, c < W.heap.size → W'.heap[c]? = W.heap[c]?)
    (hx : BlkR (μ.upd b r) W' r x) : MemR (μ.upd b r) M W' := by
  have hlt : b < M.next := by
    rcases Nat.lt_or_ge b M.next with hlt | hge
    · exact hlt
    · rw [h.past b hge] at hb; cases hb
  have hle := Mu.upd_le (r := r) hn
  constructor
  · intro B s hB
    by_cases e : B = b
    · subst e; rw [Mu.upd_same] at hB; cases hB; exact ⟨hlt, by omega⟩
    · rw [Mu.upd_ne e] at hB; have := h.dom B s hB; exact ⟨this.1, by omega⟩
  · intro B y s hy hB
    by_cases e : B = b
    · subst e; rw [Mu.upd_same] at hB; cases hB; rw [hb] at hy; cases hy; exact hx
    · rw [Mu.upd_ne e] at hB
      exact (h.blk B y s hy hB).mono hle fun _ => hold _ (h.dom B s hB).2
  · intro B C y z s t hne hy ly hz lz hB hC
    by_cases e : B = b
    · subst e
      rw [Mu.upd_same] at hB; cases hB
      rw [Mu.upd_ne (Ne.symm hne)] at hC
      have := (h.dom C t hC).2; omega
    · rw [Mu.upd_ne e] at hB
      by_cases e' : C = b
      · subst e'
        rw [Mu.upd_same] at hC; cases hC
        have := (h.dom B s hB).2; omega
      · rw [Mu.upd_ne e'] at hC
        exact h.inj B C y z s t hne hy ly hz lz hB hC
  · exact h.past

/-- A block is written, or goes. -/
theorem MemR.update (h : MemR μ M W) {b : Nat} {x x' : Blk} {r : Ref} (hb : getBlk M b = some x) (hl : live x = true) (hr : μ b = some r) (hsz : W'.heap.size = W.heap.size)
    (hw : ∀ c, c ≠ r.blk → W'.heap[c]? = W.heap[c]?) (hx : BlkR μ W' r x') : MemR μ (setBlk M b x') W' where
  dom := fun B s hB => ⟨(h.dom B s hB).1, by rw [hsz]; exact (h.dom B s hB).2⟩
  blk := fun B y s hy hB => by
    rw [getBlk_set] at hy
    split at hy
    · rename_i e; subst e; rw [hr] at hB; cases hB; cases hy; exact hx
    · rename_i e
      by_cases ly : live y = true
      · exact (h.blk B y s hy hB).mono Mu.le.rfl fun _ => hw _ (h.inj B b y x s r e hy ly hb hl hB hr)
      · cases y <;> first | exact .dead | exact absurd rfl ly
  inj := fun B C y z s t hne hy ly hz lz hB hC => by
    rw [getBlk_set] at hy hz
    split at hy
    · rename_i e; subst e
      rw [if_neg (Ne.symm hne)] at hz
      rw [hr] at hB; cases hB
      exact h.inj B C x z _ t hne hb hl hz lz hr hC
    · split at hz
      · rename_i e; subst e
        rw [hr] at hC; cases hC
        exact h.inj B C y x s _ hne hy ly hb hl hB hr
      · exact h.inj B C y z s t hne hy ly hz lz hB hC
  past := fun B hB => by
    rw [getBlk_set]
    split
    · rename_i e; subst e; have := (h.dom B r hr).1; have hB' : M.next ≤ B := hB; omega
    · exact h.past B hB

theorem Ext.newBlock (h : MemR μ M W) {x : Blk} {r : Ref} (hr : r.blk = W.heap.size) (hsz : W'.heap.size = W.heap.size + 1) (hold : ∀ c, c < W.heap.size → W'.heap[c]? = W.heap[c]?) (hs : WSame W W') :
    Ext μ M W (μ.upd M.next r) (newBlk M x).2 W' where
  nx := by rw [newBlk_next]; omega
  mu := fun B hB => Mu.upd_ne (by omega)
  le := Mu.upd_le h.fresh
  ghost := fun B hB _ => by rw [getBlk_new, if_neg (by omega)]
  hp := by omega
  own := fun c hc ⟨B, s, y, h1, h2, h3, h4⟩ => by
    by_cases e : B = M.next
    · subst e; rw [Mu.upd_same] at h1; cases h1; omega
    · rw [Mu.upd_ne e] at h1
      rw [getBlk_new, if_neg e] at h2
      exact ⟨B, s, y, h1, h2, h3, h4⟩
  keep := fun c hc _ => hold c hc
  same := hs

theorem Ext.wrote {b : Nat} {x x' : Blk} {r : Ref} (hb : getBlk M b = some x) (hwr : wr x = true) (hr : μ b = some r) (hsz : W'.heap.size = W.heap.size)
    (hw : ∀ c, c ≠ r.blk → W'.heap[c]? = W.heap[c]?) (hs : WSame W W') : Ext μ M W μ (setBlk M b x') W' where
  nx := Nat.le_refl _
  mu := fun _ _ => _root_.rfl
  le := Mu.le.rfl
  ghost := fun B hB hn => by
    rw [getBlk_set]
    split
    · rename_i e; subst e; rw [hr] at hn; cases hn
    · rfl
  hp := by omega
  own := fun c hc ⟨B, s, y, h1, h2, h3, h4⟩ => by
    rw [getBlk_set] at h2
    split at h2
    · rename_i e; subst e; rw [hr] at h1; cases h1; exact ⟨B, r, x, hr, hb, hwr, h4⟩
    · exact ⟨B, s, y, h1, h2, h3, h4⟩
  keep := fun c hc hn => hw c fun e => hn ⟨b, r, x, hr, hb, hwr, e.symm⟩
  same := hs

theorem oneCell_rel {v v' : Value} (h : oneCell v = true) (hv : VR μ v v') : v'.oneCell' = true := by
  cases hv <;> first | rfl | (simp [oneCell] at h)

theorem setCell_heap (W : World) (b o : Nat) (v : Value) {arr : Array Value} {e : TypeId} {fz : Nat × Nat} (h : W.heap[b]? = some (.cells arr e fz)) :
    (W.setCell ⟨b, o, none⟩ v).heap[b]? = some (.cells (arr.setIfInBounds o v) e fz) ∧ (∀ c, c ≠ b → (W.setCell ⟨b, o, none⟩ v).heap[c]? = W.heap[c]?) := by
  refine ⟨?_, fun c hc => ?_⟩
  · simp [World.setCell, Array.getElem?_modify, h]
  · simp [World.setCell, Array.getElem?_modify, Ne.symm hc]

theorem storeCells_run {P : Program} {b o : Nat} {e : TypeId} {fz : Nat × Nat} : ∀ (vs : List Value) (i : Nat) (W : World) (arr : Array Value), W.heap[b]? = some (.cells arr e fz) →
    (fz.1 = fz.2 ∨ arr.size ≤ fz.1) → (∀ v ∈ vs, v.oneCell' = true) → o + i + vs.length ≤ arr.size →
    ∃ W' arr', (storeCells ⟨b, o, none⟩ vs i).run P W = .ok () W' ∧ W'.heap[b]? = some (.cells arr' e fz) ∧ arr'.size = arr.size ∧
      (∀ j, arr'[j]? = if o + i ≤ j ∧ j < o + i + vs.length then vs[j - (o + i)]? else arr[j]?) ∧ W'.heap.size = W.heap.size ∧ (∀ c, c ≠ b → W'.heap[c]? = W.heap[c]?) ∧ WSame W W'
  | [], i, W, arr, h, _, _, _ => by
    refine ⟨W, arr, rfl, h, rfl, fun j => ?_, rfl, fun _ _ => rfl, WSame.rfl⟩
    rw [if_neg (by simp only [List.length_nil]; omega)]
  | v :: vs, i, W, arr, h, hf, hv, hb => by
    simp only [List.length_cons] at hb
    have hc : W.cell? ⟨b, o + i, none⟩ = some (arr[o + i]'(by omega)) := by rw [cell?_of h]; simp
    have hfr : W.frozen? ⟨b, o + i, none⟩ = false := by
      simp only [World.frozen?, h, Bool.and_eq_false_iff, decide_eq_false_iff_not]
      omega
    obtain ⟨g1, g2⟩ := setCell_heap W b (o + i) v h
    obtain ⟨W', arr', r1, r2, r3, r4, r5, r6, r7⟩ := storeCells_run (P := P) (o := o) vs (i + 1) (W.setCell ⟨b, o + i, none⟩ v) (arr.setIfInBounds (o + i) v) g1 (by simpa using hf)
      (fun u hu => hv u (by simp [hu])) (by simp; omega)
    refine ⟨W', arr', ?_, r2, by simpa using r3, fun j => ?_, by simpa using r5, fun c hcb => (r6 c hcb).trans (g2 c hcb), ?_⟩
    · have hs := run_store P W ⟨b, o + i, none⟩ v .plain (hv v (by simp))
      rw [hc, hfr] at hs
      simp only [Bool.false_eq_true, if_false] at hs
      simp only [storeCells, Sem.run_bind, Addr.add_mk, hs, Result.andThen_ok]
      exact r1
    · rw [r4 j]
      simp only [List.length_cons]
      by_cases e1 : j = o + i
      · subst e1
        rw [if_neg (by omega), if_pos (by omega), Array.getElem?_setIfInBounds, if_pos rfl, if_pos (by omega)]
        simp
      · by_cases e2 : o + (i + 1) ≤ j ∧ j < o + (i + 1) + vs.length
        · rw [if_pos e2, if_pos (by omega)]
          obtain ⟨k, hk⟩ : ∃ k, j - (o + i) = k + 1 := ⟨j - (o + i) - 1, by omega⟩
          rw [hk, show j - (o + (i + 1)) = k from by omega]
          rfl
        · rw [if_neg e2, if_neg (by omega), Array.getElem?_setIfInBounds, if_neg (by omega)]
    · exact ⟨r7.os, r7.output, r7.tape⟩

theorem cellAt_fill {c : T Value} {d : Array Value} {o i : Nat} {vs : List Value} : cellAt (c.fill o vs) d i = if o ≤ i ∧ i < o + vs.length then vs[i - o]? else cellAt c d i := by
  unfold cellAt
  rw [T.get_fill]
  by_cases h : o ≤ i ∧ i < o + vs.length
  · rw [if_pos h, if_pos h]
    have : i - o < vs.length := by omega
    rw [List.getElem?_eq_getElem this]
  · rw [if_neg h, if_neg h]

/-- Cells are written. -/
theorem writeCells_sound {P : Program} (hM : MemR μ M W) {a a' : Addr} {vs vs' : List Value} {M' : Mem} (h : writeCells M a vs = some M') (ha : 0 < vs.length → AddrR μ a a') (hv : All2 (VR μ) vs vs') :
    ∃ W', (storeCells a' vs' 0).run P W = .ok () W' ∧ MemR μ M' W' ∧ Ext μ M W μ M' W' := by
  cases vs with
  | nil =>
    simp only [writeCells, Option.some.injEq] at h
    subst h
    cases hv
    exact ⟨W, rfl, hM, Ext.rfl⟩
  | cons v vs =>
    obtain ⟨B, o, r, rfl, hB, rfl⟩ := ha (by simp)
    simp only [writeCells] at h
    cases hb : getBlk M B with
    | none => rw [hb] at h; cases h
    | some x =>
      rw [hb] at h
      cases x <;> first | (cases h; done) | skip
      rename_i c d n opn ro elem es
      cases ro with
      | true => cases h
      | false =>
        simp only at h
        obtain ⟨hc, h⟩ := bif_some h
        cases h
        simp only [Bool.and_eq_true] at hc
        have hle := le_of_ble hc.1
        have hone := hc.2
        have hx := hM.blk B _ r hb hB
        cases hx with
        | cells hh hk =>
          rename_i arr fz
          have hlen := hv.length
          have hroom := hk.room
          have hnr := hk.le
          obtain ⟨W', arr', r1, r2, r3, r4, r5, r6, r7⟩ := storeCells_run (P := P) (b := r.blk) (o := r.off + o) vs' 0 W arr hh hk.fz (by
            intro u hu
            obtain ⟨i, hi, rfl⟩ := List.mem_iff_getElem.1 hu
            have hi' : i < (v :: vs).length := by rw [hlen]; exact hi
            exact oneCell_rel (List.all_eq_true.1 hone _ (List.getElem_mem hi')) (hv.rev_get i (List.getElem?_eq_getElem hi') (List.getElem?_eq_getElem hi)))
            (by rw [← hlen]; omega)
          refine ⟨W', r1, ?_, ?_⟩
          · refine hM.update hb rfl hB r5 r6 (.cells r2 ⟨?_, hk.es, by omega, hk.le, ?_, ?_⟩)
            · rw [r3]; exact hk.fz
            · intro ho; have := hk.exact_ ho; omega
            · intro i hi
              obtain ⟨u, u', h1, h2, h3⟩ := hk.at_ i hi
              rw [cellAt_fill, r4]
              simp only [Nat.add_zero]
              by_cases hin : o ≤ i ∧ i < o + (v :: vs).length
              · rw [if_pos hin, if_pos (by omega)]
                have g1 : i - o < (v :: vs).length := by omega
                have g2 : i - o < vs'.length := by omega
                rw [show r.off + i - (r.off + o) = i - o from by omega]
                exact ⟨_, _, List.getElem?_eq_getElem g1, List.getElem?_eq_getElem g2, hv.rev_get (i - o) (List.getElem?_eq_getElem g1) (List.getElem?_eq_getElem g2)⟩
              · rw [if_neg hin, if_neg (by omega)]
                exact ⟨u, u', h1, h2, h3⟩
          · exact Ext.wrote hb rfl hB r5 r6 r7

end Go.Ab
