import Derived.Test.YtjjlhemenokdhaaGreatAbMake
namespace Go.Ab
section
variable {tb : Tab} {μ : Mu} {W : World} {M : Mem}

/-- What comes behind, as the model has it. -/
structure NewR (P : Program) (W : World) (size bytes n : Nat) (z : Value) (zeros : Bool) (x' : Value) (newA : Array Value) : Prop where
  plain : zeros = false → (Builtin.lenOf x').run P W = .ok n W ∧ ∀ W1 : World, W1.heap = W.heap → (Builtin.firstCells size n x').run P W1 = .ok newA W1
  zero : zeros = true → ∃ k l, x' = .int k l ∧ 0 ≤ l ∧ l ≤ 2 ^ 20 ∧ l * bytes ≤ 2 ^ 40 ∧ n = l.toNat ∧ newA = if n * size = 0 then #[] else Builtin.zeroCells z.cells n

theorem run_lt (ht : TabOK tb) {e : TypeId} {i : TypeInfo} (hi : tb.info.get e = some i) (w : World) : (typeInfo e).run tb.P w = .ok i w := run_info ht hi w

theorem append_fits (ht : TabOK tb) {t t2 ty e : TypeId} {size bytes n : Nat} {z : Value} {d : TypeDesc} (hsz : sizes? tb t = some (e, size, bytes, some z)) (hd : under tb t2 = some d) (base : Option Addr) (sLen sCap : Nat) (x' : Value) (newA : Array Value)
    (hN : NewR tb.P W size bytes n z (isIntD d) x' newA) (hfit : sLen + n ≤ sCap) :
    (Builtin.append_ #[t, t2] ty #[.slice base sLen sCap, x']).run tb.P W =
      (match base with
        | some a => (do storeCells (a.add (sLen * size)) newA.toList; pure (.slice base (sLen + n) sCap) : Sem Value)
        | none => pure (.slice base (sLen + n) sCap)).run tb.P W := by
  obtain ⟨hu, hs, i0, hi0, hby, hz0⟩ := sizes_ok hsz
  have h1 := run_under ht hu
  have h2 := run_under ht hd
  have h3 := run_size ht hs
  have h4 := run_info ht hi0
  have hz : zero? tb e = some z := by simp [zero?, hi0, hz0]
  have h5 := run_zero ht hz
  unfold Builtin.append_
  simp only [Sem.run_bind, h1, h2, h3, Result.andThen_ok, List.getElem?_toArray, List.getElem?_cons_zero, List.getElem?_cons_succ, Sem.run_pure]
  cases hzs : isIntD d with
  | false =>
    rw [hzs] at hN
    obtain ⟨hl, hf⟩ := hN.plain rfl
    cases d <;> first
      | (cases hzs; done)
      | (simp only [Bool.false_eq_true, if_false, Sem.run_bind, hl, Result.andThen_ok, hfit, if_true, Bool.not_false, hf W rfl]
         cases base <;> rfl)
  | true =>
    rw [hzs] at hN
    obtain ⟨k, l, rfl, a1, a2, a3, rfl, rfl⟩ := hN.zero rfl
    obtain ⟨kk, rfl⟩ : ∃ kk, d = .int kk := by cases d <;> first | exact ⟨_, rfl⟩ | (cases hzs; done)
    have b1 : IntKind.i64.wrap l = l := wrap_small a1 (by omega)
    have b2 : ¬ (l < 0) := by omega
    have b3 : ¬ (l * (i0.bytes : Int) > 2 ^ 48) := by rw [hby]; omega
    simp only [if_true, Sem.run_bind, asInt, asIntOf, Sem.run_pure, Result.andThen_ok, b1, b2, if_false, h4, b3, hfit, Bool.not_true, Bool.false_eq_true]
    by_cases h0 : l.toNat * size = 0
    · simp only [h0, if_true, Sem.run_pure, Result.andThen_ok]
      cases base <;> rfl
    · simp only [h0, if_false, Sem.run_bind, Sem.run_pure, Result.andThen_ok, h5]
      cases base <;> rfl

theorem cut_ge (need sCap : Nat) (e : TypeId) (t : Nat) : need ≤ (Question.appendCap need sCap e).cut t := by
  simp [Question.cut]

theorem append_grows (ht : TabOK tb) {t t2 ty e : TypeId} {size bytes n : Nat} {z : Value} {d : TypeDesc} (hsz : sizes? tb t = some (e, size, bytes, some z)) (hd : under tb t2 = some d) (base : Option Addr) (sLen sCap : Nat) (x' : Value) (newA oldA : Array Value)
    (hN : NewR tb.P W size bytes n z (isIntD d) x' newA) (hno : ¬ sLen + n ≤ sCap) (hmax : sLen + n ≤ 2 ^ 62) (hcap : Builtin.nextslicecap (sLen + n) sCap * bytes ≤ 2 ^ 48)
    (hold : ∀ W1 : World, W1.heap = W.heap → (Builtin.firstCells size sLen (.slice base sLen sCap)).run tb.P W1 = .ok oldA W1) :
    ∃ newCap W', sLen + n ≤ newCap ∧ (Builtin.append_ #[t, t2] ty #[.slice base sLen sCap, x']).run tb.P W = .ok (.slice (some ⟨W.heap.size, 0, none⟩) (sLen + n) newCap) W' ∧
      W'.heap = W.heap.push (.cells (oldA ++ newA ++ Builtin.zeroCells z.cells (newCap - (sLen + n))) e) ∧ WSame W W' := by
  obtain ⟨hu, hs, i0, hi0, hby, hz0⟩ := sizes_ok hsz
  have h1 := run_under ht hu
  have h2 := run_under ht hd
  have h3 := run_size ht hs
  have h4 := run_info ht hi0
  have hz : zero? tb e = some z := by simp [zero?, hi0, hz0]
  have h5 := run_zero ht hz
  have c1 : ¬ (((sLen + n : Nat) : Int) > IntKind.i64.max) := by
    have : IntKind.i64.max = 9223372036854775807 := rfl
    rw [this]; omega
  have c2 : ¬ (Builtin.nextslicecap (sLen + n) sCap * i0.bytes > 2 ^ 48) := by rw [hby]; omega
  refine ⟨(Question.appendCap (sLen + n) sCap e).cut (W.tape W.drawn (.appendCap (sLen + n) sCap e)),
    { W with drawn := W.drawn + 1, heap := W.heap.push (.cells (oldA ++ newA ++ Builtin.zeroCells z.cells ((Question.appendCap (sLen + n) sCap e).cut (W.tape W.drawn (.appendCap (sLen + n) sCap e)) - (sLen + n))) e) }, cut_ge _ _ _ _, ?_, rfl, ⟨rfl, rfl, rfl⟩⟩
  have hch : (choose (.appendCap (sLen + n) sCap e)).run tb.P W = .ok ((Question.appendCap (sLen + n) sCap e).cut (W.tape W.drawn (.appendCap (sLen + n) sCap e))) { W with drawn := W.drawn + 1 } := by
    simp [Question.forced]
  unfold Builtin.append_
  simp only [Sem.run_bind, h1, h2, h3, Result.andThen_ok, List.getElem?_toArray, List.getElem?_cons_zero, List.getElem?_cons_succ, Sem.run_pure]
  cases hzs : isIntD d with
  | false =>
    rw [hzs] at hN
    obtain ⟨hl, hf⟩ := hN.plain rfl
    cases d <;> first
      | (cases hzs; done)
      | simp only [Bool.false_eq_true, if_false, Sem.run_bind, hl, Result.andThen_ok, hno, h4, c1, false_and, c2, hch, run_askRoom, hold { W with drawn := W.drawn + 1 } rfl, hf { W with drawn := W.drawn + 1 } rfl, Bool.not_false, if_true, h5, newRow_run, Sem.run_pure]
  | true =>
    rw [hzs] at hN
    obtain ⟨k, l, rfl, a1, a2, a3, rfl, rfl⟩ := hN.zero rfl
    obtain ⟨kk, rfl⟩ : ∃ kk, d = .int kk := by cases d <;> first | exact ⟨_, rfl⟩ | (cases hzs; done)
    have b1 : IntKind.i64.wrap l = l := wrap_small a1 (by omega)
    have b2 : ¬ (l < 0) := by omega
    have b3 : ¬ (l * (i0.bytes : Int) > 2 ^ 48) := by rw [hby]; omega
    simp only [if_true, Sem.run_bind, asInt, asIntOf, Sem.run_pure, Result.andThen_ok, b1, b2, if_false, h4, b3, hno, c1, false_and, c2, hch, run_askRoom, hold { W with drawn := W.drawn + 1 } rfl, Bool.not_true, Bool.false_eq_true]
    by_cases h0 : l.toNat * size = 0
    · simp only [h0, if_true, Sem.run_pure, Result.andThen_ok, h5, newRow_run]
    · simp only [h0, if_false, Sem.run_bind, Sem.run_pure, Result.andThen_ok, h5, newRow_run]

theorem cell?_heap {W1 : World} (h : W1.heap = W.heap) (a : Addr) : W1.cell? a = W.cell? a := by simp [World.cell?, h]

theorem string_cells (s : ByteArray) : (s.extract 0 s.size).data.map (fun b => Value.int .u8 b.toNat) = s.data.map fun b => .int .u8 b.toNat := by
  have : (s.extract 0 s.size).data = s.data := by
    simp
  rw [this]

theorem appended_sound (hM : MemR μ M W) {size bytes n : Nat} {z : Value} {zeros : Bool} {x x' : Value} {new : List Value} (h : appended? size bytes z.cells zeros x M = some (n, new)) (hx : VR μ x x')
    (hzs : z.cells.size = size) (hz : AR μ z.cells z.cells) (hs0 : size ≠ 0) :
    ∃ newA : Array Value, NewR tb.P W size bytes n z zeros x' newA ∧ All2 (VR μ) new newA.toList ∧ new.length = n * size := by
  unfold appended? at h
  split at h
  · rename_i k l
    obtain ⟨hc, h⟩ := bif_some h
    simp only [Bool.and_eq_true, decide_eq_true_eq] at hc
    obtain ⟨⟨c1, c2⟩, c3⟩ := hc
    cases h
    rw [hx.int_eq]
    refine ⟨if l.toNat * size = 0 then #[] else Builtin.zeroCells z.cells l.toNat, ⟨by simp, fun _ => ⟨k, l, rfl, c1, c2, c3, rfl, rfl⟩⟩, ?_, by simp [hzs]⟩
    by_cases h0 : l.toNat * size = 0
    · rw [if_pos h0, hzs, h0]; exact .nil
    · rw [if_neg h0]
      refine .of_get (by simp [Builtin.zeroCells]) fun i a b ha hb => ?_
      have hi : i < l.toNat * z.cells.size := by
        rcases Nat.lt_or_ge i (l.toNat * z.cells.size) with hi | hi
        · exact hi
        · rw [List.getElem?_eq_none (by simpa using hi)] at ha; cases ha
      have hlt : i % z.cells.size < z.cells.size := Nat.mod_lt _ (by omega)
      rw [List.getElem?_map, List.getElem?_range hi] at ha
      simp only [Builtin.zeroCells, Array.getElem?_toList, Array.getElem?_map, Array.getElem?_range, hi, if_true] at hb
      simp only [Option.map_some, Option.some.injEq] at ha hb
      subst ha; subst hb
      rw [getElem!_pos z.cells _ hlt]
      exact hz.at_ _ _ _ (Array.getElem?_eq_getElem hlt) (Array.getElem?_eq_getElem hlt)
  · rename_i a n0 c
    obtain ⟨l, hl, he⟩ := map_some h
    cases he
    obtain ⟨a', c', rfl, ha⟩ := slice_addr hx
    obtain ⟨vs', h1, h2, h3⟩ := readCells_sound hM.toReadR hl (fun hp => ha (by
      rcases Nat.eq_zero_or_pos n with h0 | h0
      · rw [h0] at hp; omega
      · exact h0))
    refine ⟨vs'.toArray, ⟨fun _ => ⟨rfl, fun W1 hW => ?_⟩, by simp⟩, by simpa using h1, h2⟩
    exact loadCells_run (by rw [← h2, h1.length]) fun j v hj => (cell?_heap hW _).trans (h3 j v hj)
  · rename_i n0 c
    obtain ⟨hc, h⟩ := bif_some h
    cases h
    have := eq_of_nbeq hc
    subst this
    cases hx
    exact ⟨#[], ⟨fun _ => ⟨rfl, fun W1 hW => rfl⟩, by simp⟩, .nil, by simp⟩
  · rename_i s
    obtain ⟨hc, h⟩ := bif_some h
    cases h
    have := eq_of_nbeq hc
    subst this
    rw [hx.string_eq]
    refine ⟨s.data.map fun b => .int .u8 b.toNat, ⟨fun _ => ⟨rfl, fun W1 hW => ?_⟩, by simp⟩, ?_, by rw [List.length_map, Nat.mul_one]; rfl⟩
    · simp only [Builtin.firstCells, Sem.run_pure, string_cells]
    · rw [Array.toList_map]
      exact All2.of_map _ fun b _ => .int _ _
  · cases h

theorem readFrom_get {c : T Value} {d : Array Value} {n : Nat} : ∀ (k o : Nat) (vs : List Value), readFrom c d n o k = some vs → vs.length = k ∧ (0 < k → o + k ≤ n) ∧ ∀ i, i < k → vs[i]? = cellAt c d (o + i)
  | 0, o, vs, h => by
    simp only [readFrom, Option.some.injEq] at h
    subst h
    exact ⟨rfl, by omega, by omega⟩
  | k + 1, o, vs, h => by
    simp only [readFrom] at h
    obtain ⟨hlt, h⟩ := bif_some h
    have hlt := lt_of_blt hlt
    cases hc : cellAt c d o with
    | none => rw [hc] at h; cases h
    | some v =>
      rw [hc] at h
      simp only at h
      cases hr : readFrom c d n (o + 1) k with
      | none => rw [hr] at h; cases h
      | some ws =>
        rw [hr] at h
        cases h
        obtain ⟨a1, a2, a3⟩ := readFrom_get k (o + 1) ws hr
        refine ⟨by simp [a1], fun _ => ?_, fun i hi => ?_⟩
        · rcases Nat.eq_zero_or_pos k with h0 | h0
          · omega
          · have := a2 h0; omega
        · cases i with
          | zero => simpa using hc.symm
          | succ i =>
            rw [show o + (i + 1) = o + 1 + i from by omega]
            simpa using a3 i (by omega)

/-- A block goes, and what stood in it goes on as another one, in the same block of the world's. -/
theorem MemR.move {W' : World} (h : MemR μ M W) {b : Nat} {x x' : Blk} {r r' : Ref} (hb : getBlk M b = some x) (hl : live x = true) (hr : μ b = some r) (hrb : r'.blk = r.blk) (hsz : W'.heap.size = W.heap.size)
    (hw : ∀ c, c ≠ r.blk → W'.heap[c]? = W.heap[c]?) (hx : BlkR (μ.upd M.next r') W' r' x') : MemR (μ.upd M.next r') (newBlk (setBlk M b .dead) x').2 W' := by
  have hf := h.fresh
  have hle := Mu.upd_le (r := r') hf
  have hlt := (h.dom b r hr).1
  have hget : ∀ B y, getBlk (newBlk (setBlk M b .dead) x').2 B = some y → (B = M.next ∧ y = x') ∨ (B ≠ M.next ∧ B = b ∧ y = .dead) ∨ (B ≠ M.next ∧ B ≠ b ∧ getBlk M B = some y) := by
    intro B y hy
    rw [getBlk_new] at hy
    have hn : (setBlk M b .dead).next = M.next := rfl
    rw [hn] at hy
    by_cases e : B = M.next
    · rw [if_pos e] at hy; cases hy; exact .inl ⟨e, rfl⟩
    · rw [if_neg e, getBlk_set] at hy
      by_cases e' : B = b
      · rw [if_pos e'] at hy; cases hy; exact .inr (.inl ⟨e, e', rfl⟩)
      · rw [if_neg e'] at hy; exact .inr (.inr ⟨e, e', hy⟩)
  constructor
  · intro B s hB
    have hn : (newBlk (setBlk M b .dead) x').2.next = M.next + 1 := rfl
    by_cases e : B = M.next
    · subst e; rw [Mu.upd_same] at hB; cases hB
      exact ⟨by omega, by rw [hrb, hsz]; exact (h.dom b r hr).2⟩
    · rw [Mu.upd_ne e] at hB
      have := h.dom B s hB
      exact ⟨by omega, by rw [hsz]; exact this.2⟩
  · intro B y s hy hB
    rcases hget B y hy with ⟨rfl, rfl⟩ | ⟨e, rfl, rfl⟩ | ⟨e, e', hy⟩
    · rw [Mu.upd_same] at hB; cases hB; exact hx
    · exact .dead
    · rw [Mu.upd_ne e] at hB
      by_cases ly : live y = true
      · exact (h.blk B y s hy hB).mono hle fun _ => hw _ (h.inj B b y x s r e' hy ly hb hl hB hr)
      · cases y <;> first | exact .dead | exact absurd rfl ly
  · intro B C y z s t hne hy ly hz lz hB hC
    rcases hget B y hy with ⟨e1, e2⟩ | ⟨_, _, e3⟩ | ⟨e, e', hy2⟩
    · rw [e1, Mu.upd_same] at hB; cases hB
      rcases hget C z hz with ⟨f1, _⟩ | ⟨_, _, f3⟩ | ⟨f, f', hz2⟩
      · exact absurd (e1.trans f1.symm) hne
      · rw [f3] at lz; cases lz
      · rw [Mu.upd_ne f] at hC
        rw [hrb]
        exact (h.inj C b z x t r f' hz2 lz hb hl hC hr).symm
    · rw [e3] at ly; cases ly
    · rw [Mu.upd_ne e] at hB
      rcases hget C z hz with ⟨f1, _⟩ | ⟨_, _, f3⟩ | ⟨f, f', hz2⟩
      · rw [f1, Mu.upd_same] at hC; cases hC
        rw [hrb]
        exact h.inj B b y x s r e' hy2 ly hb hl hB hr
      · rw [f3] at lz; cases lz
      · rw [Mu.upd_ne f] at hC
        exact h.inj B C y z s t hne hy2 ly hz2 lz hB hC
  · intro B hB
    have hn : (newBlk (setBlk M b .dead) x').2.next = M.next + 1 := rfl
    rw [hn] at hB
    rw [getBlk_new, if_neg (show B ≠ (setBlk M b .dead).next from by have : (setBlk M b .dead).next = M.next := rfl; omega), getBlk_set, if_neg (by omega)]
    exact h.past B (by omega)

theorem Ext.moved {W' : World} (h : MemR μ M W) {b : Nat} {x x' : Blk} {r r' : Ref} (hb : getBlk M b = some x) (hwr : wr x = true) (hr : μ b = some r) (hrb : r'.blk = r.blk) (hsz : W'.heap.size = W.heap.size)
    (hw : ∀ c, c ≠ r.blk → W'.heap[c]? = W.heap[c]?) (hs : WSame W W') : Ext μ M W (μ.upd M.next r') (newBlk (setBlk M b .dead) x').2 W' where
  nx := by show M.next ≤ M.next + 1; omega
  mu := fun B hB => Mu.upd_ne (by omega)
  le := Mu.upd_le h.fresh
  ghost := fun B hB hn => by
    rw [getBlk_new, if_neg (show B ≠ (setBlk M b .dead).next from by have : (setBlk M b .dead).next = M.next := _root_.rfl; omega), getBlk_set, if_neg]
    intro e; subst e; rw [hr] at hn; cases hn
  hp := by omega
  own := fun c hc ⟨B, s, y, h1, h2, h3, h4⟩ => by
    have hn : (setBlk M b .dead).next = M.next := _root_.rfl
    rw [getBlk_new, hn] at h2
    by_cases e : B = M.next
    · subst e; rw [Mu.upd_same] at h1; cases h1
      exact ⟨b, r, x, hr, hb, hwr, by rw [← hrb]; exact h4⟩
    · rw [Mu.upd_ne e] at h1
      rw [if_neg e, getBlk_set] at h2
      by_cases e' : B = b
      · rw [if_pos e'] at h2; cases h2; cases h3
      · rw [if_neg e'] at h2; exact ⟨B, s, y, h1, h2, h3, h4⟩
  keep := fun c hc hn => hw c fun e => hn ⟨b, r, x, hr, hb, hwr, e.symm⟩
  same := hs

end
end Go.Ab
