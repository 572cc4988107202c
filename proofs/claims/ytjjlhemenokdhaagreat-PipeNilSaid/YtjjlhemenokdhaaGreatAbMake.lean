import Derived.Test.YtjjlhemenokdhaaGreatAbWrite
namespace Go.Ab
section
variable {tb : Tab} {μ : Mu} {W : World}

/-- What a making operation does. -/
def Made (tb : Tab) (μ : Mu) (W : World) (s : Sem Next) (x : Blk) (f : Nat → Value) : Prop :=
  ∃ W' v' r o, s.run tb.P W = .ok (.value v') W' ∧ W'.heap = W.heap.push o ∧ WSame W W' ∧ r.blk = W.heap.size ∧ live x = true ∧ wr x = true ∧
    ∀ ν b, μ.le ν → ν b = some r → BlkR ν W' r x ∧ VR ν (f b) v'

theorem push_new (W : World) (o : Obj) : ({ W with heap := W.heap.push o } : World).heap[W.heap.size]? = some o := by simp

theorem newRow_run {P : Program} (W : World) (e : TypeId) (cs : Array Value) : (newRow e cs).run P W = .ok ⟨W.heap.size, 0, none⟩ { W with heap := W.heap.push (.cells cs e) } := by
  simp [newRow]

theorem cells_new (W : World) {c : T Value} {d : Array Value} {n : Nat} {e : TypeId} {es : Nat} {cs : Array Value} {ν : Mu} (hs : cs.size = n)
    (hat : ∀ i, i < n → ∃ v v', cellAt c d i = some v ∧ cs[i]? = some v' ∧ VR ν v v') :
    BlkR ν { W with heap := W.heap.push (.cells cs e) } ⟨W.heap.size, 0, n, es⟩ (.cells c d n false false e es) :=
  .cells (push_new W _) ⟨.inl rfl, rfl, by simp [hs], Nat.le_refl _, fun _ => ⟨rfl, rfl, hs⟩, fun i hi => by simpa using hat i hi⟩

theorem AR.at2 {x x' : Array Value} (h : AR μ x x') (i : Nat) (hi : i < x.size) : ∃ v v', x[i]? = some v ∧ x'[i]? = some v' ∧ VR μ v v' := by
  have hi' : i < x'.size := by rw [← h.size]; exact hi
  exact ⟨x[i], x'[i], by simp [hi], by simp [hi'], h.at_ i _ _ (by simp [hi]) (by simp [hi'])⟩

theorem dflt_at {d : Array Value} {i : Nat} (hi : i < d.size) : cellAt .nil d i = d[i]? := by
  unfold cellAt
  rw [T.get_nil]
  show d[i % d.size]? = _
  rw [Nat.mod_eq_of_lt hi]

theorem AR.mono {ν : Mu} {x x' : Array Value} (h : AR μ x x') (hm : μ.le ν) : AR ν x x' := ⟨h.size, fun i a b ha hb => (h.at_ i a b ha hb).mono hm⟩

theorem push_old {W W' : World} {o : Obj} (h : W'.heap = W.heap.push o) : W'.heap.size = W.heap.size + 1 ∧ ∀ c, c < W.heap.size → W'.heap[c]? = W.heap[c]? :=
  ⟨by rw [h]; simp, fun c hc => by rw [h, Array.getElem?_push, if_neg (by omega)]⟩

/-- What a making operation does, with the number that comes next. -/
theorem Made.next {s : Sem Next} {x : Blk} {f : Nat → Value} {M : Mem} (h : Made tb μ W s x f) (hM : MemR μ M W) :
    ∃ W' v' μ', s.run tb.P W = .ok (.value v') W' ∧ VR μ' (f M.next) v' ∧ MemR μ' (newBlk M x).2 W' ∧ Ext μ M W μ' (newBlk M x).2 W' := by
  obtain ⟨W', v', r, o, h1, h2, h3, h4, h5, h6, h7⟩ := h
  obtain ⟨p1, p2⟩ := push_old h2
  obtain ⟨g1, g2⟩ := h7 (μ.upd M.next r) M.next (Mu.upd_le hM.fresh) Mu.upd_same
  exact ⟨W', v', μ.upd M.next r, h1, g2, (hM.ghost x).place (by rw [getBlk_new, if_pos rfl]) hM.fresh h4 p1 p2 g1, Ext.newBlock hM h4 p1 p2 h3⟩

theorem zero_cells (ht : TabOK tb) {t : TypeId} {z : Value} (h : zero? tb t = some z) : AR μ z.cells z.cells := by
  have hzs : VR μ z z := zero_self ht h
  have : isTop z = false := by
    unfold zero? at h
    cases hi : tb.info.get t with
    | none => rw [hi] at h; cases h
    | some i => rw [hi] at h; exact not_top (ht.zero t i z hi h)
  exact AR.of (hzs.cells this)

theorem sizes_ok {t e : TypeId} {size bytes : Nat} {z : Option Value} (h : sizes? tb t = some (e, size, bytes, z)) :
    under tb t = some (.slice e) ∧ sizeOf? tb e = some size ∧ (∃ i, tb.info.get e = some i ∧ i.bytes = bytes ∧ i.zero = z) := by
  unfold sizes? at h
  split at h
  · rename_i e' hu
    cases hi : tb.info.get e' with
    | none => rw [hi] at h; cases h
    | some i =>
      rw [hi] at h
      cases h
      exact ⟨hu, by simp [sizeOf?, hi], i, hi, rfl, rfl⟩
  · cases h

theorem cells_oneTop {v : Value} (h : v.cells.toList.all oneCell = true) : isTop v = false := by
  cases v <;> first | rfl | (simp [Value.cells, oneCell] at h)

theorem wrap_small {n : Int} (h0 : 0 ≤ n) (h1 : n ≤ 2 ^ 40) : IntKind.i64.wrap n = n := by
  have hm : n % 18446744073709551616 = n := Int.emod_eq_of_lt h0 (by omega)
  simp [IntKind.wrap, IntKind.signed, IntKind.bits, hm]
  omega

theorem fill_size {place : Nat → Option (Nat × Nat)} : ∀ (ps : List (Nat × Value)) (x y : Array Value), fillAgg place x ps = some y → y.size = x.size
  | [], x, y, h => by simp only [fillAgg, Option.some.injEq] at h; rw [h]
  | (i, v) :: rest, x, y, h => by
    simp only [fillAgg] at h
    split at h
    · cases h
    · rename_i off size _
      cases hc : (isTop v || !Nat.beq v.cells.size size || Nat.blt x.size (off + v.cells.size)) with
      | true => rw [hc] at h; cases h
      | false =>
        rw [hc] at h
        have := fill_size rest _ y h
        rw [this]
        have key : ∀ (l : List (Value × Nat)) (z : Array Value), (l.foldl (putAt off) z).size = z.size := by
          intro l
          induction l with
          | nil => intro z; rfl
          | cons p l ih => intro z; rw [List.foldl_cons, ih]; simp [putAt]
        exact key _ _

theorem makes_sound (ht : TabOK tb) {ρ ρ' : Operand → Value} (hρ : ∀ x, VR μ (ρ x) (ρ' x)) {o : Oper} {x : Blk} {f : Nat → Value} (h : makes? tb ρ o = some (x, f)) (W : World) : Made tb μ W (execOp ρ' o) x f := by
  obtain ⟨dst, op, ty, pos, after, guard⟩ := o
  cases op with
  | alloc t =>
    simp only [makes?] at h
    cases hz : zero? tb t with
    | none => rw [hz] at h; cases h
    | some z =>
      cases hs : sizeOf? tb t with
      | none => rw [hz, hs] at h; cases h
      | some n =>
        rw [hz, hs] at h
        simp only at h
        obtain ⟨hc, h⟩ := bif_some h
        cases h
        have hn := eq_of_nbeq hc
        refine ⟨_, _, ⟨W.heap.size, 0, n, n⟩, _, run_v (v := .pointer (some ⟨W.heap.size, 0, none⟩)) (w' := { W with heap := W.heap.push (.cells z.cells t) }) ?_, rfl, ⟨rfl, rfl, rfl⟩, rfl, rfl, rfl, fun ν b hm hb => ⟨?_, ?_⟩⟩
        · simp [Instr.alloc, run_zero ht hz, newVar, newRow_run]
        · refine cells_new W hn fun i hi => ?_
          rw [dflt_at (by omega)]
          exact (zero_cells ht hz).at2 i (by omega)
        · exact .ptr hb
  | box t v =>
    simp only [makes?] at h
    obtain ⟨hc, h⟩ := bif_some h
    cases h
    have hcs := AR.of ((hρ v).cells (cells_oneTop hc))
    refine ⟨_, _, ⟨W.heap.size, 0, (ρ v).cells.size, (ρ v).cells.size⟩, _, run_v (v := .pointer (some ⟨W.heap.size, 0, none⟩)) (w' := { W with heap := W.heap.push (.cells (ρ' v).cells t) }) ?_, rfl, ⟨rfl, rfl, rfl⟩, rfl, rfl, rfl, fun ν b hm hb => ⟨?_, ?_⟩⟩
    · simp [Instr.box, newVar, newRow_run]
    · refine cells_new W hcs.size.symm fun i hi => ?_
      rw [dflt_at hi]
      exact (hcs.mono hm).at2 i hi
    · exact .ptr hb
  | buildSlice t len parts =>
    simp only [makes?] at h
    split at h
    · rename_i e size bytes z hsz
      obtain ⟨hu, hs, i0, hi0, _, hz0⟩ := sizes_ok hsz
      cases hlim : (Nat.blt (2 ^ 20) (len * size) || Nat.blt (2 ^ 20) len) with
      | true => rw [hlim] at h; cases h
      | false =>
      rw [hlim] at h
      simp only [Bool.or_eq_false_iff] at hlim
      have hlim2 := ge_of_blt hlim.2
      have hlim := ge_of_blt hlim.1
      simp only [cond_false] at h
      have hparts : All2 (fun (p q : Nat × Value) => p.1 = q.1 ∧ VR μ p.2 q.2) (parts.toList.map fun p => (p.1, ρ p.2)) ((parts.map fun (i, x) => (i, ρ' x)).toList) := by
        rw [Array.toList_map]
        exact All2.of_map _ fun p _ => ⟨rfl, hρ p.2⟩
      -- the zero's cells
      have hzz : ∃ zc : Array Value, (bif Nat.beq (len * size) 0 then some #[] else match z with
          | some z => bif Nat.beq z.cells.size size then some z.cells else none
          | none => none) = some zc ∧ (match fillAgg (fun i => some (i * size, size)) ((Array.range (len * size)).map (zc[· % zc.size]!)) (parts.toList.map fun p => (p.1, ρ p.2)) with
            | some cs => some (Blk.cells (T.nil.fill 0 cs.toList) #[] (len * size) false false e size, fun b => Value.slice (some ⟨b, 0, none⟩) len len)
            | none => none) = some (x, f) := by
        split at h
        · rename_i zc hzc; exact ⟨zc, hzc, h⟩
        · cases h
      obtain ⟨zc, hzc, h⟩ := hzz
      have hrun : ∀ {β : Type} (g : Array Value → Sem β), (if len * size = 0 then (do let zero ← pure #[]; g zero) else (do let z ← zeroValue e; let zero ← pure z.cells; g zero)).run tb.P W = (g zc).run tb.P W := by
        intro β g
        cases hb : Nat.beq (len * size) 0 with
        | true =>
          rw [hb] at hzc
          cases hzc
          rw [if_pos (eq_of_nbeq hb)]
          rfl
        | false =>
          rw [hb] at hzc
          have hne : len * size ≠ 0 := by intro e; rw [e] at hb; cases hb
          rw [if_neg hne]
          simp only [cond_false] at hzc
          split at hzc
          · rename_i z'
            obtain ⟨_, hzc⟩ := bif_some hzc
            cases hzc
            have hz : zero? tb e = some z' := by simp [zero?, hi0, hz0]
            simp [run_zero ht hz]
          · cases hzc
      have hself : AR μ ((Array.range (len * size)).map (zc[· % zc.size]!)) ((Array.range (len * size)).map (zc[· % zc.size]!)) := by
        refine ⟨rfl, fun i a b ha hb => ?_⟩
        rw [ha] at hb; cases hb
        simp only [Array.getElem?_map] at ha
        cases hr : (Array.range (len * size))[i]? with
        | none => rw [hr] at ha; cases ha
        | some j =>
          rw [hr] at ha
          simp only [Option.map_some, Option.some.injEq] at ha
          subst ha
          have hi : i < len * size := by
            rcases Nat.lt_or_ge i (len * size) with hi | hi
            · exact hi
            · rw [Array.getElem?_eq_none (by simpa using hi)] at hr; cases hr
          have hne : Nat.beq (len * size) 0 = false := nbeq_ne (by omega)
          rw [hne] at hzc
          simp only [cond_false] at hzc
          split at hzc
          · rename_i z'
            obtain ⟨hzs, hzc⟩ := bif_some hzc
            cases hzc
            have hz : zero? tb e = some z' := by simp [zero?, hi0, hz0]
            have hpos : 0 < z'.cells.size := by
              have := eq_of_nbeq hzs
              rcases Nat.eq_zero_or_pos size with h0 | h0
              · rw [h0] at hi; omega
              · omega
            have hlt : j % z'.cells.size < z'.cells.size := Nat.mod_lt _ hpos
            rw [getElem!_pos z'.cells (j % z'.cells.size) hlt]
            obtain ⟨v, v', h1, h2, h3⟩ := (zero_cells (μ := μ) ht hz).at2 (j % z'.cells.size) hlt
            rw [Array.getElem?_eq_getElem hlt] at h1 h2
            cases h1; cases h2; exact h3
          · cases hzc
      cases hfl : fillAgg (fun i => some (i * size, size)) ((Array.range (len * size)).map (zc[· % zc.size]!)) (parts.toList.map fun p => (p.1, ρ p.2)) with
      | none => rw [hfl] at h; cases h
      | some cs =>
        rw [hfl] at h
        cases h
        obtain ⟨cs', hcs', hrel⟩ := fill_sound hfl hparts hself
        have hsize : cs.size = len * size := by rw [fill_size _ _ _ hfl]; simp
        refine ⟨_, _, ⟨W.heap.size, 0, len * size, size⟩, _, run_v (v := .slice (some ⟨W.heap.size, 0, none⟩) len len) (w' := { W with heap := W.heap.push (.cells cs' e) }) ?_, rfl, ⟨rfl, rfl, rfl⟩, rfl, rfl, rfl, fun ν b hm hb => ⟨?_, ?_⟩⟩
        · have hno : ¬ (len * size > 2 ^ 24) := by omega
          have hgo := hrun (fun zero => (match Instr.fill (fun i => some (i * size, size)) ((Array.range (len * size)).map (zero[· % zero.size]!)) (parts.map fun (i, x) => (i, ρ' x)).toList with
            | some cells => (do pure (.slice (some (← newRow e cells)) len len))
            | _ => stuck "buildSlice: a part of the wrong size" : Sem Value))
          simp only [hcs', Sem.run_bind, newRow_run, Result.andThen_ok, Sem.run_pure] at hgo
          simp only [Instr.buildSlice, Sem.run_bind, run_under ht hu, Result.andThen_ok, run_size ht hs, hno, if_false]
          exact hgo
        · refine cells_new W (by rw [← hrel.size, hsize]) fun i hi => ?_
          rw [cellAt_fill, if_pos (by simp; omega)]
          simpa using (hrel.mono hm).at2 i (by omega)
        · exact .slc hb (by unfold capOpen; omega) (Nat.le_refl _)
    · cases h
  | makeSlice t l c =>
    have hl := hρ l
    have hc := hρ c
    simp only [makes?] at h
    simp only [execOp]
    generalize ρ l = lv at h hl
    generalize ρ' l = lv' at hl ⊢
    generalize ρ c = cv at h hc
    generalize ρ' c = cv' at hc ⊢
    split at h
    · rename_i e size bytes z k l k' c hsz
      obtain ⟨hu, hs, i0, hi0, hby, hz0⟩ := sizes_ok hsz
      obtain ⟨hcond, h⟩ := bif_some h
      cases h
      simp only [Bool.and_eq_true, decide_eq_true_eq] at hcond
      obtain ⟨⟨⟨⟨c1, c2⟩, c3⟩, c4⟩, c5⟩ := hcond
      have c5 := eq_of_nbeq c5
      rw [hl.int_eq, hc.int_eq]
      have hz : zero? tb e = some z := by simp [zero?, hi0, hz0]
      have hwl : IntKind.i64.wrap l = l := wrap_small c1 (by omega)
      have hwc : IntKind.i64.wrap c = c := wrap_small (by omega) c4
      obtain ⟨lk, rfl⟩ := Int.eq_ofNat_of_zero_le c1
      obtain ⟨ck, rfl⟩ := Int.eq_ofNat_of_zero_le (show 0 ≤ c by omega)
      have hself : ∀ i, i < ck * size → ∃ v, z.cells[i % z.cells.size]? = some v ∧ ((Array.range (ck * size)).map (z.cells[· % z.cells.size]!))[i]? = some v := by
        intro i hi
        have hpos : 0 < z.cells.size := by
          rcases Nat.eq_zero_or_pos size with h0 | h0
          · rw [h0] at hi; omega
          · omega
        have hlt : i % z.cells.size < z.cells.size := Nat.mod_lt _ hpos
        refine ⟨z.cells[i % z.cells.size], by simp [hlt], ?_⟩
        rw [Array.getElem?_map, Array.getElem?_range, if_pos hi]
        simp [hlt]
      have hrun : ∀ {β : Type} (g : Array Value → Sem β), (if ck * size = 0 then (do let zero ← pure #[]; g zero) else (do let z ← zeroValue e; let zero ← pure z.cells; g zero)).run tb.P W =
          (g (if ck * size = 0 then #[] else z.cells)).run tb.P W := by
        intro β g
        by_cases h0 : ck * size = 0
        · rw [if_pos h0, if_pos h0]; rfl
        · rw [if_neg h0, if_neg h0]; simp [run_zero ht hz]
      have hmap : (Array.range (ck * size)).map ((if ck * size = 0 then #[] else z.cells)[· % (if ck * size = 0 then #[] else z.cells).size]!) = (Array.range (ck * size)).map (z.cells[· % z.cells.size]!) := by
        by_cases h0 : ck * size = 0
        · simp [h0]
        · simp [h0]
      refine ⟨{ W with heap := W.heap.push (.cells ((Array.range (ck * size)).map (z.cells[· % z.cells.size]!)) e) }, .slice (some ⟨W.heap.size, 0, none⟩) lk ck, ⟨W.heap.size, 0, ck * size, size⟩, _, run_v ?_, rfl, ⟨rfl, rfl, rfl⟩, rfl, rfl, rfl, fun ν b hm hb => ⟨?_, ?_⟩⟩
      · have hgo := hrun (fun zero => (do
          let a ← newRow e ((Array.range (ck * size)).map (zero[· % zero.size]!))
          pure (.slice (some a) lk ck) : Sem Value))
        rw [hmap] at hgo
        simp only [Sem.run_bind, newRow_run, Result.andThen_ok, Sem.run_pure] at hgo
        have hb1 : ¬ ((ck : Int) < 0) := by omega
        have hb2 : ¬ ((i0.bytes : Int) * ck > 2 ^ 48) := by rw [hby]; omega
        have hb3 : ¬ ((lk : Int) < 0) := by omega
        have hb4 : ¬ ((lk : Int) > ck) := by omega
        simp only [Instr.makeSlice, Sem.run_bind, run_under ht hu, Result.andThen_ok, run_info ht hi0, asInt, asIntOf, Sem.run_pure, hwl, hwc]
        simp only [hb1, hb2, hb3, hb4, decide_false, Bool.or_self, Bool.false_eq_true, if_false, Int.toNat_natCast, Sem.run_bind, run_askRoom, Result.andThen_ok, run_size ht hs]
        exact hgo
      · refine cells_new W (by simp) fun i hi => ?_
        obtain ⟨v, h1, h2⟩ := hself i hi
        refine ⟨v, v, ?_, h2, ?_⟩
        · unfold cellAt; rw [T.get_nil]; exact h1
        · exact ((zero_cells (μ := ν) ht hz).at_ _ _ _ h1 h1)
      · exact .slc hb (by unfold capOpen; omega) (by omega)
    · cases h
  | makeMap t r =>
    simp only [makes?] at h
    split at h
    · rename_i hr
      cases h
      refine ⟨_, _, ⟨W.heap.size, 0, 0, 0⟩, _, run_v (v := .map (some W.heap.size)) (w' := { W with heap := W.heap.push (.map #[] 0) }) ?_, rfl, ⟨rfl, rfl, rfl⟩, rfl, rfl, rfl, fun ν b hm hb => ⟨?_, ?_⟩⟩
      · cases r with
        | none => simp [Instr.makeMap]
        | some x =>
          simp only at hr
          have hx := hρ x
          split at hr
          · rename_i k n ke ee hxe hu
            rw [hxe] at hx
            simp [Instr.makeMap, hx.int_eq, asInt, asIntOf, run_under ht hu]
          · cases hr
      · exact .obj (push_new W _) rfl (.map .nil)
      · exact .map hb
    · cases h
  | _ => cases h

end
end Go.Ab
