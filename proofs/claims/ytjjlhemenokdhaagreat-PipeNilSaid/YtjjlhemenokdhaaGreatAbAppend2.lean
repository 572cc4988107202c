import Derived.Test.YtjjlhemenokdhaaGreatAbAppend
namespace Go.Ab
section
variable {tb : Tab} {μ : Mu} {W : World} {M : Mem}

/-- What a run that changes memory does. -/
def Does (tb : Tab) (μ : Mu) (M : Mem) (W : World) (s : Sem Value) (v : Value) (M' : Mem) : Prop :=
  ∃ W' v' μ', s.run tb.P W = .ok v' W' ∧ VR μ' v v' ∧ MemR μ' M' W' ∧ Ext μ M W μ' M' W'

theorem zeroCells_size (z : Array Value) (n : Nat) : (Builtin.zeroCells z n).size = n * z.size := by simp [Builtin.zeroCells]

/-- The cells of a row that has grown. -/
theorem grown_cells {ν : Mu} {c : T Value} {cs : List Value} {arr : Array Value} {off n : Nat} (hc : ∀ i, i < n → cellAt c #[] i = cs[i]?) (hn : cs.length = n) {cs' : List Value} (hr : All2 (VR ν) cs cs')
    (ha : ∀ i, i < n → arr[off + i]? = cs'[i]?) : ∀ i, i < n → ∃ v v', cellAt c #[] i = some v ∧ arr[off + i]? = some v' ∧ VR ν v v' := by
  intro i hi
  have h1 : i < cs.length := by omega
  have h2 : i < cs'.length := by rw [← hr.length]; exact h1
  refine ⟨cs[i], cs'[i], by rw [hc i hi, List.getElem?_eq_getElem h1], by rw [ha i hi, List.getElem?_eq_getElem h2], hr.rev_get i (List.getElem?_eq_getElem h1) (List.getElem?_eq_getElem h2)⟩

theorem cell_fill0 (cs : List Value) (i : Nat) (hi : i < cs.length) : cellAt (T.nil.fill 0 cs) #[] i = cs[i]? := by
  rw [cellAt_fill, if_pos (by omega)]; simp

/-- A new array: 'cs' and room behind it. -/
theorem grow_place (hM : MemR μ M W) {elem size need newCap : Nat} {cs : List Value} {csA : Array Value} {z : Value} {c : T Value} {W' : World} (hzs : z.cells.size = size) (hcs : All2 (VR μ) cs csA.toList) (hlen : cs.length = need * size)
    (hc : ∀ i, i < need * size → cellAt c #[] i = cs[i]?) (hcap : need ≤ newCap) (hw : W'.heap = W.heap.push (.cells (csA ++ Builtin.zeroCells z.cells (newCap - need)) elem)) (hs : WSame W W') :
    ∃ μ', VR μ' (.slice (some ⟨M.next, 0, none⟩) need capOpen) (.slice (some ⟨W.heap.size, 0, none⟩) need newCap) ∧
      MemR μ' (newBlk M (.cells c #[] (need * size) true false elem size)).2 W' ∧ Ext μ M W μ' (newBlk M (.cells c #[] (need * size) true false elem size)).2 W' := by
  obtain ⟨p1, p2⟩ := push_old hw
  have hcl : csA.size = need * size := by rw [← hlen]; simpa using hcs.length.symm
  have hsz : (csA ++ Builtin.zeroCells z.cells (newCap - need)).size = newCap * size := by
    rw [Array.size_append, zeroCells_size, hzs, hcl, ← Nat.add_mul]; congr 1; omega
  have hle : μ.le (μ.upd M.next ⟨W.heap.size, 0, newCap * size, size⟩) := Mu.upd_le hM.fresh
  refine ⟨μ.upd M.next ⟨W.heap.size, 0, newCap * size, size⟩, ?_, ?_, ?_⟩
  · exact .slcOpen (r := ⟨W.heap.size, 0, newCap * size, size⟩) Mu.upd_same (by simp) hcap
  · refine (hM.ghost _).place (by rw [getBlk_new, if_pos rfl]) hM.fresh rfl p1 p2 ?_
    refine .cells (arr := csA ++ Builtin.zeroCells z.cells (newCap - need)) (fz := (0, 0)) (by rw [hw]; simp) ⟨.inl rfl, rfl, by rw [hsz]; simp, Nat.mul_le_mul_right _ hcap, by simp, ?_⟩
    refine grown_cells hc hlen (hcs.vmono hle) fun i hi => ?_
    rw [Nat.zero_add, Array.getElem?_append_left (by omega)]
    simp
  · exact Ext.newBlock hM rfl p1 p2 hs

theorem nextcap_le (need cap : Nat) (h : cap < need) : Builtin.nextslicecap need cap ≤ 2 * need + 1000 := by
  unfold Builtin.nextslicecap
  have hg : ∀ (r c : Nat), c ≤ 2 * need + 1000 → Builtin.growBy need r c ≤ 2 * need + 1000 := by
    intro r
    induction r with
    | zero => intro c hc; exact hc
    | succ r ih =>
      intro c hc
      simp only [Builtin.growBy]
      split
      · exact hc
      · exact ih _ (by omega)
  split
  · omega
  · split
    · omega
    · exact hg 4 cap (by omega)

/-- Rows, member by member. -/
theorem rows_of {R : Value → Value → Prop} {f g : Nat → Option Value} : ∀ (m : Nat), (∀ i, i < m → ∃ v v', f i = some v ∧ g i = some v' ∧ R v v') →
    ∃ l l' : List Value, l.length = m ∧ All2 R l l' ∧ (∀ i, i < m → l[i]? = f i) ∧ (∀ i, i < m → l'[i]? = g i)
  | 0, _ => ⟨[], [], rfl, .nil, by omega, by omega⟩
  | m + 1, h => by
    obtain ⟨l, l', h1, h2, h3, h4⟩ := rows_of m fun i hi => h i (by omega)
    obtain ⟨v, v', a1, a2, a3⟩ := h m (by omega)
    have h1' : l'.length = m := by rw [← h2.length]; exact h1
    refine ⟨l ++ [v], l' ++ [v'], by simp [h1], h2.append (.cons a3 .nil), fun i hi => ?_, fun i hi => ?_⟩
    · by_cases e : i = m
      · subst e; rw [List.getElem?_append_right (by omega), h1]; simp [a1]
      · rw [List.getElem?_append_left (by omega)]; exact h3 i (by omega)
    · by_cases e : i = m
      · subst e; rw [List.getElem?_append_right (by omega), h1']; simp [a2]
      · rw [List.getElem?_append_left (by omega)]; exact h4 i (by omega)

theorem MemR.kill (h : MemR μ M W) {b : Nat} {x : Blk} (hb : getBlk M b = some x) : MemR μ (setBlk M b .dead) W where
  dom := h.dom
  blk := fun B y s hy hB => by
    rw [getBlk_set] at hy
    split at hy
    · cases hy; exact .dead
    · exact h.blk B y s hy hB
  inj := fun B C y z s t hne hy ly hz lz hB hC => by
    rw [getBlk_set] at hy hz
    split at hy
    · cases hy; cases ly
    · split at hz
      · cases hz; cases lz
      · exact h.inj B C y z s t hne hy ly hz lz hB hC
  past := fun B hB => by
    have hB' : M.next ≤ B := hB
    rw [getBlk_set]
    split
    · rename_i e; subst e; rw [h.past B hB'] at hb; cases hb
    · exact h.past B hB'

theorem append_sound (ht : TabOK tb) (hM : MemR μ M W) {t t2 ty e : TypeId} {size bytes : Nat} {z : Value} {d : TypeDesc} (hsz : sizes? tb t = some (e, size, bytes, some z)) (hd : under tb t2 = some d)
    {s x s' x' v : Value} {M' : Mem} (h : append? e size bytes z.cells (isIntD d) s x M = some (v, M')) (hs : VR μ s s') (hx : VR μ x x') :
    Does tb μ M W (Builtin.append_ #[t, t2] ty #[s', x']) v M' := by
  obtain ⟨hu, hs1, i0, hi0, hby, hz0⟩ := sizes_ok hsz
  have hzz : zero? tb e = some z := by simp [zero?, hi0, hz0]
  have hzc := zero_cells (μ := μ) ht hzz
  unfold append? at h
  cases s <;> first | (cases h; done) | skip
  rename_i base sLen sCap
  simp only at h
  cases hap : appended? size bytes z.cells (isIntD d) x M with
  | none => rw [hap] at h; cases h
  | some q =>
  obtain ⟨n, new⟩ := q
  rw [hap] at h
  simp only at h
  cases hg : (Nat.beq bytes 0 || Nat.beq size 0 || Nat.blt (2 ^ 62) (sLen + n) || !(Nat.beq z.cells.size size)) with
  | true => rw [hg] at h; cases h
  | false =>
  rw [hg] at h
  simp only [Bool.or_eq_false_iff, Bool.not_eq_false'] at hg
  obtain ⟨⟨⟨g1, g2⟩, g3⟩, g4⟩ := hg
  have hsz0 : size ≠ 0 := by intro e; rw [e] at g2; cases g2
  have g3 := ge_of_blt g3
  have g4 := eq_of_nbeq g4
  simp only [cond_false] at h
  obtain ⟨newA, hN, hnew, hnl⟩ := appended_sound (tb := tb) hM hap hx g4 hzc hsz0
  have hnA : newA.size = n * size := by rw [← hnl]; simpa using hnew.length.symm
  cases hcap : Nat.blt sCap capOpen with
  | true =>
    rw [hcap] at h
    have hcap := lt_of_blt hcap
    simp only [cond_true] at h
    -- the slice there: the same length and capacity
    obtain ⟨base', rfl, hb1, hb2⟩ : ∃ base', s' = .slice base' sLen sCap ∧ (base = none → base' = none) ∧ (∀ a, base = some a → ∃ a', base' = some a' ∧ (0 < sCap → AddrR μ a a') ∧ sLen ≤ sCap) := by
      cases hs with
      | slcNil _ _ => exact ⟨none, rfl, fun _ => rfl, fun a ha => (by cases ha)⟩
      | slc hB _ hn => exact ⟨_, rfl, fun h => (by cases h), fun a ha => ⟨_, rfl, fun _ => (by cases ha; exact ⟨_, _, _, rfl, hB, rfl⟩), hn⟩⟩
      | slcOpen _ _ _ => exact absurd hcap (Nat.lt_irrefl _)
      | slcTail _ => exact absurd hcap (Nat.lt_irrefl _)
      | slcZero => exact ⟨_, rfl, fun h => (by cases h), fun a ha => ⟨_, rfl, fun h => absurd h (Nat.lt_irrefl _), Nat.le_refl _⟩⟩
    cases hfit : Nat.ble (sLen + n) sCap with
    | true =>
      rw [hfit] at h
      have hfit := le_of_ble hfit
      simp only [cond_true] at h
      have hrun := append_fits (ty := ty) ht hsz hd base' sLen sCap x' newA hN hfit
      cases base with
      | none =>
        simp only at h
        obtain ⟨h0, h⟩ := bif_some h
        cases h
        have h0 := eq_of_nbeq h0
        subst h0
        have := hb1 rfl
        subst this
        exact ⟨W, .slice none (sLen + 0) sCap, μ, hrun, hs, hM, Ext.rfl⟩
      | some a =>
        simp only at h
        obtain ⟨a', rfl, hA, hle⟩ := hb2 a rfl
        cases hwr : writeCells M (a.add (sLen * size)) new with
        | none => rw [hwr] at h; cases h
        | some M1 =>
          rw [hwr] at h
          cases h
          obtain ⟨W', r1, r2, r3⟩ := writeCells_sound (P := tb.P) hM hwr (a' := a'.add (sLen * size)) (fun hp => (hA (by
            rw [hnl] at hp
            have : 0 < n := by
              rcases Nat.eq_zero_or_pos n with h0 | h0
              · rw [h0] at hp; omega
              · exact h0
            omega)).add _) hnew
          refine ⟨W', .slice (some a') (sLen + n) sCap, μ, ?_, ?_, r2, r3⟩
          · rw [hrun]
            simp only [Sem.run_bind, r1, Result.andThen_ok, Sem.run_pure]
          · cases hs with
            | slc hB hc _ => exact .slc hB hc hfit
            | slcOpen _ _ _ => exact absurd hcap (Nat.lt_irrefl _)
            | slcZero =>
              have : n = 0 := by omega
              subst this
              exact .slcZero
    | false =>
      rw [hfit] at h
      have hfit : ¬ (sLen + n ≤ sCap) := by
        intro hle
        have : Nat.ble (sLen + n) sCap = true := Nat.ble_eq_true_of_le hle
        rw [this] at hfit; cases hfit
      simp only [cond_false] at h
      cases hnc : Nat.blt (2 ^ 48) (Builtin.nextslicecap (sLen + n) sCap * bytes) with
      | true => rw [hnc] at h; cases h
      | false =>
      rw [hnc] at h
      have hnc := ge_of_blt hnc
      simp only [cond_false] at h
      obtain ⟨old, hold, h⟩ : ∃ old, (match base with | none => (bif Nat.beq sLen 0 then some [] else none) | some a => readCells M a (sLen * size)) = some old ∧ some (grown e size (sLen + n) (old ++ new) M) = some (v, M') := by
        split at h
        · cases h
        · rename_i old ho; exact ⟨old, ho, h⟩
      -- what stood there
      obtain ⟨oldA, ho1, ho2, ho3⟩ : ∃ oldA : Array Value, (∀ W1 : World, W1.heap = W.heap → (Builtin.firstCells size sLen (.slice base' sLen sCap)).run tb.P W1 = .ok oldA W1) ∧ All2 (VR μ) old oldA.toList ∧ old.length = sLen * size := by
        cases base with
        | none =>
          simp only at hold
          obtain ⟨h0, hold⟩ := bif_some hold
          cases hold
          have := hb1 rfl
          subst this
          have h0 := eq_of_nbeq h0
          subst h0
          exact ⟨#[], fun W1 _ => rfl, .nil, by simp⟩
        | some a =>
          obtain ⟨a', rfl, hA, hle⟩ := hb2 a rfl
          obtain ⟨vs', k1, k2, k3⟩ := readCells_sound hM.toReadR hold (fun hp => hA (by
            have : 0 < sLen := by
              rcases Nat.eq_zero_or_pos sLen with h0 | h0
              · rw [h0] at hp; omega
              · exact h0
            omega))
          refine ⟨vs'.toArray, fun W1 hW => ?_, by simpa using k1, k2⟩
          exact loadCells_run (by rw [← k2, k1.length]) fun j u hj => (cell?_heap hW _).trans (k3 j u hj)
      obtain ⟨newCap, W', c1, c2, c3, c4⟩ := append_grows (ty := ty) ht hsz hd base' sLen sCap x' newA oldA hN hfit g3 hnc ho1
      have hcs : All2 (VR μ) (old ++ new) (oldA ++ newA).toList := by
        rw [Array.toList_append]; exact ho2.append hnew
      have hcl : (old ++ new).length = (sLen + n) * size := by rw [List.length_append, ho3, hnl, Nat.add_mul]
      obtain ⟨μ', q1, q2, q3⟩ := grow_place hM (elem := e) (c := T.nil.fill 0 (old ++ new)) g4 hcs hcl (fun i hi => cell_fill0 _ _ (by omega)) c1 c3 c4
      cases h
      exact ⟨W', _, μ', c2, q1, q2, q3⟩
  | false =>
    rw [hcap] at h
    have hcap := ge_of_blt hcap
    simp only [cond_false] at h
    cases hn0 : Nat.beq n 0 with
    | true =>
      rw [hn0] at h
      have hn0 := eq_of_nbeq hn0
      subst hn0
      simp only [cond_true] at h
      cases h
      have hnil : newA = #[] := by
        have : newA.size = 0 := by rw [hnA]; simp
        exact Array.eq_empty_of_size_eq_zero this
      subst hnil
      obtain ⟨a', c', rfl, hle⟩ : ∃ a' c', s' = .slice (some a') sLen c' ∧ sLen ≤ c' := by
        cases hs with
        | slcNil hc _ => omega
        | slc _ hc _ => omega
        | slcOpen _ _ hn => exact ⟨_, _, rfl, hn⟩
        | slcTail _ => exact ⟨_, _, rfl, Nat.le_refl _⟩
        | slcZero => unfold capOpen at hcap; omega
      have hrun := append_fits (ty := ty) ht hsz hd (some a') sLen c' x' #[] hN (by omega)
      exact ⟨W, .slice (some a') sLen c', μ, by rw [hrun]; rfl, hs, hM, Ext.rfl⟩
    | false =>
    rw [hn0] at h
    have hn0 : n ≠ 0 := by intro e; rw [e] at hn0; cases hn0
    simp only [cond_false] at h
    cases hlim : (Nat.blt (2 ^ 48) ((2 * (sLen + n) + 1000) * bytes) || !(new.all oneCell)) with
    | true => rw [hlim] at h; cases h
    | false =>
    rw [hlim] at h
    simp only [Bool.or_eq_false_iff, Bool.not_eq_false'] at hlim
    obtain ⟨hlim, hone⟩ := hlim
    have hlim := ge_of_blt hlim
    simp only [cond_false] at h
    cases base with
    | none => cases h
    | some a =>
    simp only at h
    obtain ⟨B, o, sp⟩ := a
    cases sp with
    | some q => cases h
    | none =>
    simp only at h
    cases hb : getBlk M B with
    | none => rw [hb] at h; cases h
    | some y =>
    rw [hb] at h
    cases y <;> first | (cases h; done) | skip
    rename_i c dd k opn ro e' es
    cases opn with
    | false => cases h
    | true =>
    cases ro with
    | true => cases h
    | false =>
    simp only at h
    obtain ⟨hee, h⟩ := bif_some h
    simp only [Bool.and_eq_true] at hee
    have he1 := eq_of_nbeq hee.1
    have he2 := eq_of_nbeq hee.2
    subst he1 he2
    -- the row as it will be
    obtain ⟨cn, hv, hM', hcn1, hcn2, hok⟩ : ∃ (cn : T Value), v = .slice (some ⟨M.next, 0, none⟩) (sLen + n) capOpen ∧ M' = (newBlk (setBlk M B .dead) (.cells cn #[] ((sLen + n) * es) true false e' es)).2 ∧
        (∀ i, i < sLen * es → cellAt cn #[] i = cellAt c dd (o + i)) ∧ (∀ i, sLen * es ≤ i → i < (sLen + n) * es → cellAt cn #[] i = new[i - sLen * es]?) ∧ (0 < sLen → o + sLen * es ≤ k) := by
      have hadd : (sLen + n) * es = sLen * es + n * es := Nat.add_mul _ _ _
      cases hfast : (Nat.beq o 0 && Nat.beq k (sLen * es) && Nat.beq dd.size 0) with
      | true =>
        rw [hfast] at h
        simp only [Bool.and_eq_true] at hfast
        have f1 := eq_of_nbeq hfast.1.1
        have f2 := eq_of_nbeq hfast.1.2
        have f3 := eq_of_nbeq hfast.2
        have f3 : dd = #[] := Array.eq_empty_of_size_eq_zero f3
        subst f1 f3
        cases h
        refine ⟨_, rfl, rfl, fun i hi => ?_, fun i h1 h2 => ?_, fun _ => by omega⟩
        · rw [cellAt_fill, if_neg (by omega), Nat.zero_add]
        · rw [cellAt_fill, if_pos (by omega)]
      | false =>
        rw [hfast] at h
        simp only [cond_false] at h
        cases hr : readFrom c dd k o (sLen * es) with
        | none => rw [hr] at h; cases h
        | some old =>
          rw [hr] at h
          obtain ⟨r1, r2, r3⟩ := readFrom_get _ _ _ hr
          simp only [grown] at h
          cases h
          refine ⟨T.nil.fill 0 (old ++ new), rfl, rfl, fun i hi => ?_, fun i h1 h2 => ?_, fun hp => r2 (Nat.mul_pos hp (by omega))⟩
          · rw [cell_fill0 _ _ (by simp; omega), List.getElem?_append_left (by omega)]
            exact r3 i hi
          · rw [cell_fill0 _ _ (by simp; omega), List.getElem?_append_right (by omega), r1]
    clear h
    subst hv hM'
    have hM1 := hM.kill hb
    have hext1 : ∀ r, μ B = some r → Ext μ M W μ (setBlk M B .dead) W := fun r hr => Ext.wrote hb rfl hr rfl (fun _ _ => rfl) WSame.rfl
    -- where there is no room
    have grow : ∀ (a' : Addr) (cc : Nat) (r : Ref), μ B = some r → ¬ (sLen + n ≤ cc) → (0 < sLen → a' = ⟨r.blk, r.off + o, none⟩) → s' = .slice (some a') sLen cc →
        Does tb μ M W (Builtin.append_ #[t, t2] ty #[s', x']) (.slice (some ⟨M.next, 0, none⟩) (sLen + n) capOpen) (newBlk (setBlk M B .dead) (.cells cn #[] ((sLen + n) * es) true false e' es)).2 := by
      intro a' cc r hB hno ha' hs'
      subst hs'
      have hbk := hM.blk B _ r hb hB
      cases hbk with
      | cells hh hk =>
      rename_i arr fz
      obtain ⟨old, vs', o1, o2, o3, o4⟩ := rows_of (R := VR μ) (f := fun i => cellAt c dd (o + i)) (g := fun i => arr[r.off + (o + i)]?) (sLen * es) (fun i hi => hk.at_ (o + i) (by
        have := hok (by
          rcases Nat.eq_zero_or_pos sLen with h0 | h0
          · rw [h0] at hi; omega
          · exact h0)
        omega))
      have ho1 : ∀ W1 : World, W1.heap = W.heap → (Builtin.firstCells es sLen (.slice (some a') sLen cc)).run tb.P W1 = .ok vs'.toArray W1 := by
        intro W1 hW
        refine loadCells_run (by rw [← o1, o2.length]) fun j u hj => ?_
        have hj' : j < sLen * es := by
          rcases Nat.lt_or_ge j (sLen * es) with h0 | h0
          · exact h0
          · rw [List.getElem?_eq_none (by rw [← o2.length, o1]; exact h0)] at hj; cases hj
        have hp : 0 < sLen := by
          rcases Nat.eq_zero_or_pos sLen with h0 | h0
          · rw [h0] at hj'; omega
          · exact h0
        rw [cell?_heap hW, ha' hp, Addr.add_mk, cell?_of hh, Nat.add_assoc, ← o4 j hj']
        exact hj
      have hnc : Builtin.nextslicecap (sLen + n) cc * bytes ≤ 2 ^ 48 := Nat.le_trans (Nat.mul_le_mul_right _ (nextcap_le _ _ (by omega))) hlim
      obtain ⟨newCap, W', c1, c2, c3, c4⟩ := append_grows (ty := ty) ht hsz hd (some a') sLen cc x' newA vs'.toArray hN hno g3 hnc ho1
      have hcs : All2 (VR μ) (old ++ new) (vs'.toArray ++ newA).toList := by
        rw [Array.toList_append]; exact (show All2 (VR μ) old vs'.toArray.toList by simpa using o2).append hnew
      have hcl : (old ++ new).length = (sLen + n) * es := by rw [List.length_append, o1, hnl, Nat.add_mul]
      obtain ⟨μ', q1, q2, q3⟩ := grow_place hM1 (elem := e') (c := cn) g4 hcs hcl (fun i hi => by
        by_cases hlt : i < sLen * es
        · rw [hcn1 i hlt, List.getElem?_append_left (by omega)]; exact (o3 i hlt).symm
        · rw [hcn2 i (by omega) hi, List.getElem?_append_right (by omega), o1]) c1 c3 c4
      exact ⟨W', _, μ', c2, q1, q2, (hext1 r hB).trans q3⟩
    cases hs with
    | slc _ hc _ => omega
    | slcZero => unfold capOpen at hcap; omega
    | slcTail hB => exact grow _ 0 _ hB (by omega) (fun h => absurd h (Nat.lt_irrefl _)) rfl
    | @slcOpen _ _ _ cc r hB hroom hle =>
      by_cases hfit : sLen + n ≤ cc
      · have hbk := hM.blk B _ r hb hB
        cases hbk with
        | cells hh hk =>
        rename_i arr fz
        have hes := hk.es
        have hroom2 := hk.room
        rw [hes] at hroom
        have hmul : (sLen + n) * es ≤ cc * es := Nat.mul_le_mul_right _ hfit
        have hadd : (sLen + n) * es = sLen * es + n * es := Nat.add_mul _ _ _
        have hrun := append_fits (ty := ty) ht hsz hd (some ⟨r.blk, r.off + o, none⟩) sLen cc x' newA hN hfit
        obtain ⟨W', arr', r1, r2, r3, r4, r5, r6, r7⟩ := storeCells_run (P := tb.P) (b := r.blk) (o := r.off + o + sLen * es) newA.toList 0 W arr hh hk.fz (by
          intro u hu
          obtain ⟨i, hi, rfl⟩ := List.mem_iff_getElem.1 hu
          have hi' : i < new.length := by rw [hnew.length]; exact hi
          exact oneCell_rel (List.all_eq_true.1 hone _ (List.getElem_mem hi')) (hnew.rev_get i (List.getElem?_eq_getElem hi') (List.getElem?_eq_getElem hi)))
          (by rw [Array.length_toList, hnA]; omega)
        refine ⟨W', .slice (some ⟨r.blk, r.off + o, none⟩) (sLen + n) cc, μ.upd M.next ⟨r.blk, r.off + o, r.room - o, es⟩, ?_, ?_, ?_, ?_⟩
        · rw [hrun]
          simp only [Addr.add_mk, Sem.run_bind, r1, Result.andThen_ok, Sem.run_pure]
        · exact .slcOpen (r := ⟨r.blk, r.off + o, r.room - o, es⟩) Mu.upd_same (by simp only []; omega) hfit
        · refine hM.move hb rfl hB rfl r5 r6 (.cells r2 ⟨by rw [r3]; exact hk.fz, rfl, ?_, ?_, by simp, fun i hi => ?_⟩)
          · rw [r3]; simp only []; omega
          · simp only []; omega
          · have hlu := Mu.upd_le (r := ⟨r.blk, r.off + o, r.room - o, es⟩) hM.fresh
            simp only []
            rw [r4]
            simp only [Nat.add_zero, Array.length_toList, hnA]
            by_cases hlt : i < sLen * es
            · rw [hcn1 i hlt, if_neg (by omega), Nat.add_assoc]
              obtain ⟨u, u', k1, k2, k3⟩ := hk.at_ (o + i) (by
                have := hok (by
                  rcases Nat.eq_zero_or_pos sLen with h0 | h0
                  · rw [h0] at hlt; omega
                  · exact h0)
                omega)
              exact ⟨u, u', k1, k2, k3.mono hlu⟩
            · rw [hcn2 i (by omega) hi, if_pos (by omega), show r.off + o + i - (r.off + o + sLen * es) = i - sLen * es from by omega]
              have hj : i - sLen * es < new.length := by omega
              have hj' : i - sLen * es < newA.toList.length := by rw [← hnew.length]; exact hj
              exact ⟨_, _, List.getElem?_eq_getElem hj, List.getElem?_eq_getElem hj', (hnew.rev_get _ (List.getElem?_eq_getElem hj) (List.getElem?_eq_getElem hj')).mono hlu⟩
        · exact Ext.moved hM hb rfl hB rfl r5 r6 r7
      · exact grow _ cc r hB hfit (fun _ => rfl) rfl

end
end Go.Ab
