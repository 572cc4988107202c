import Derived.Test.YtjjlhemenokdhaaGreatAbAppend2
namespace Go.Ab
section
variable {tb : Tab} {μ : Mu} {W : World} {M : Mem}

theorem copy_sound (ht : TabOK tb) (hM : MemR μ M W) {t t2 ty e : TypeId} {size bytes : Nat} {z : Option Value} (hsz : sizes? tb t = some (e, size, bytes, z))
    {s x s' x' v : Value} {M' : Mem} (h : copy? size s x M = some (v, M')) (hs : VR μ s s') (hx : VR μ x x') :
    Does tb μ M W (Builtin.copy_ #[t, t2] ty #[s', x']) v M' := by
  obtain ⟨hu, hs1, _⟩ := sizes_ok hsz
  have h1 := run_under ht hu
  have h2 := run_size ht hs1
  unfold copy? at h
  cases s <;> first | (cases h; done) | skip
  rename_i base dLen dCap
  simp only at h
  split at h
  · cases h
  · rename_i sn hsn
    have hlen : (Builtin.lenOf x').run tb.P W = .ok sn W := by
      split at hsn
      · cases hsn
        cases hx <;> rfl
      · cases hsn
        rw [hx.string_eq]; rfl
      · cases hsn
    split at h
    · cases h
    · rename_i cs hcs
      have hcells : ∃ csA : Array Value, (Builtin.firstCells size (Nat.min sn dLen) x').run tb.P W = .ok csA W ∧ All2 (VR μ) cs csA.toList := by
        split at hcs
        · rename_i a n c
          cases hsn
          obtain ⟨a', c', rfl, ha⟩ := slice_addr hx
          obtain ⟨vs', k1, k2, k3⟩ := readCells_sound hM.toReadR hcs (fun hp => ha (by
            rcases Nat.eq_zero_or_pos sn with h0 | h0
            · subst h0; simp at hp
            · exact h0))
          exact ⟨vs'.toArray, loadCells_run (by rw [← k2, k1.length]) k3, by simpa using k1⟩
        · rename_i n c
          cases hcs
          cases hx
          exact ⟨#[], rfl, .nil⟩
        · rename_i str
          obtain ⟨hc, hcs⟩ := bif_some hcs
          cases hcs
          rw [hx.string_eq]
          refine ⟨(str.extract 0 (Nat.min sn dLen)).data.map fun b => .int .u8 b.toNat, rfl, ?_⟩
          rw [Array.toList_map]
          exact All2.of_map _ fun b _ => .int _ _
        · cases hcs
      obtain ⟨csA, hfc, hrel⟩ := hcells
      have hcl : 0 < cs.length → 0 < dLen := by
        intro hp
        rcases Nat.eq_zero_or_pos dLen with h0 | h0
        · subst h0
          exfalso
          have hm : Nat.min sn 0 = 0 := Nat.min_zero sn
          split at hcs
          · rw [hm, Nat.zero_mul] at hcs
            simp only [readCells, Option.some.injEq] at hcs
            subst hcs; simp at hp
          · cases hcs; simp at hp
          · obtain ⟨_, hcs⟩ := bif_some hcs
            cases hcs
            rw [hm] at hp
            simp at hp
          · cases hcs
        · exact h0
      cases base with
      | none =>
        simp only at h
        cases h
        obtain ⟨c', rfl⟩ : ∃ c', s' = .slice none dLen c' := by cases hs; exact ⟨_, rfl⟩
        refine ⟨W, .int .i64 (Nat.min sn dLen), μ, ?_, .int _ _, hM, Ext.rfl⟩
        unfold Builtin.copy_
        simp only [Sem.run_bind, h1, h2, Result.andThen_ok, List.getElem?_toArray, List.getElem?_cons_zero, List.getElem?_cons_succ, Sem.run_pure, hlen, hfc]
        rfl
      | some a =>
        simp only at h
        cases hw : writeCells M a cs with
        | none => rw [hw] at h; cases h
        | some M1 =>
          rw [hw] at h
          cases h
          obtain ⟨a', c', rfl, ha⟩ := slice_addr hs
          obtain ⟨W', r1, r2, r3⟩ := writeCells_sound (P := tb.P) hM hw (a' := a') (fun hp => ha (hcl hp)) hrel
          refine ⟨W', .int .i64 (Nat.min sn dLen), μ, ?_, .int _ _, r2, r3⟩
          unfold Builtin.copy_
          simp only [Sem.run_bind, h1, h2, Result.andThen_ok, List.getElem?_toArray, List.getElem?_cons_zero, List.getElem?_cons_succ, Sem.run_pure, hlen, hfc, r1]
          rfl

theorem store_sound (ht : TabOK tb) (hM : MemR μ M W) {t : TypeId} {a a' : Addr} {v v' : Value} {M' : Mem} (h : store? tb t a v M = some M') (ha : AddrR μ a a') (hv : VR μ v v') :
    ∃ W', (Instr.storeAt t (.pointer (some a')) v').run tb.P W = .ok () W' ∧ MemR μ M' W' ∧ Ext μ M W μ M' W' := by
  unfold store? at h
  cases hs : sizeOf? tb t with
  | none => rw [hs] at h; cases h
  | some n =>
    rw [hs] at h
    simp only at h
    obtain ⟨hc, h⟩ := bif_some h
    have hn := eq_of_nbeq hc
    have hnt : isTop v = false := by
      cases v <;> first | rfl | skip
      rename_i k x y
      simp only [Value.cells, writeCells] at h
      obtain ⟨B, o, r, rfl, hB, rfl⟩ := ha
      simp only at h
      split at h
      · obtain ⟨hcc, _⟩ := bif_some h
        simp [oneCell] at hcc
      · cases h
    have hcells := hv.cells hnt
    obtain ⟨W', r1, r2, r3⟩ := writeCells_sound (P := tb.P) hM h (fun _ => ha) hcells
    refine ⟨W', ?_, r2, r3⟩
    have hsz : v'.cells.size = n := by rw [← hv.size hnt, hn]
    simp only [Instr.storeAt, Instr.sureAddr, storeVar, Sem.run_bind, Sem.run_pure, Result.andThen_ok, run_size ht hs, hsz, ne_eq, not_true, if_false]
    exact r1

theorem findNow_at {d : TypeDesc} {k : Value} : ∀ (es : List MapEntry) (i j : Nat) (v : Value), Instr.findNow d k es i = some (some (j, v)) → ∃ e, i ≤ j ∧ es[j - i]? = some e ∧ Instr.sameNow d k e.key = some true
  | [], i, j, v, h => by cases h
  | e :: es, i, j, v, h => by
    simp only [Instr.findNow] at h
    split at h
    · rename_i hs
      cases h
      exact ⟨e, Nat.le_refl _, by simp, hs⟩
    · obtain ⟨e', h1, h2, h3⟩ := findNow_at es (i + 1) j v h
      refine ⟨e', by omega, ?_, h3⟩
      obtain ⟨q, hq⟩ : ∃ q, j - i = q + 1 := ⟨j - i - 1, by omega⟩
      rw [show j - (i + 1) = q from by omega] at h2
      rw [hq]
      simpa using h2
    · cases h

theorem bytes_eq (a b : ByteArray) : (a == b) = true ↔ a = b := by
  obtain ⟨x⟩ := a
  obtain ⟨y⟩ := b
  constructor
  · intro h
    have e : x = y := by simpa using (show (x == y) = true from h)
    rw [e]
  · intro h
    cases h
    show (x == x) = true
    simp

theorem sameNow_bits {d : TypeDesc} {a b : Value} (h : Instr.sameNow d a b = some true) (n : Nat) : Instr.sameBits n b a = true := by
  unfold Instr.sameNow at h
  split at h
  · rename_i k x k' y
    split at h
    · rename_i e
      subst e
      simp only [Option.some.injEq, beq_iff_eq] at h
      subst h
      cases n <;> simp [Instr.sameBits]
    · cases h
  · simp only [Option.some.injEq] at h
    have e := (bytes_eq _ _).1 h
    subst e
    cases n <;> exact h
  · simp only [Option.some.injEq, beq_iff_eq] at h
    subst h
    cases n <;> simp [Instr.sameBits]
  · cases h

theorem setObj_run {P : Program} {b : Nat} {o o2 : Obj} (h : W.heap[b]? = some o) (hc : ∀ c e f, o ≠ .cells c e f) : (setObj b o2).run P W = .ok () { W with heap := W.heap.setIfInBounds b o2 } := by
  simp only [setObj, Sem.run, h]

theorem setObj_heap {b : Nat} {o2 : Obj} (hb : b < W.heap.size) : ({ W with heap := W.heap.setIfInBounds b o2 } : World).heap[b]? = some o2 ∧ (∀ c, c ≠ b → ({ W with heap := W.heap.setIfInBounds b o2 } : World).heap[c]? = W.heap[c]?) ∧
    ({ W with heap := W.heap.setIfInBounds b o2 } : World).heap.size = W.heap.size := by
  refine ⟨by simp [hb], fun c hc => by simp [Ne.symm hc], by simp⟩

/-- An object is changed. -/
theorem obj_update (hM : MemR μ M W) {B : Nat} {r : Ref} {x x' : Blk} {o' o2 : Obj} (hb : getBlk M B = some x) (hl : live x = true) (hwr : wr x = true) (hB : μ B = some r) (ho : W.heap[r.blk]? = some o') (hc : ∀ c e f, o' ≠ .cells c e f)
    (hx : ∀ W' : World, W'.heap[r.blk]? = some o2 → BlkR μ W' r x') {P : Program} :
    ∃ W', (setObj r.blk o2).run P W = .ok () W' ∧ MemR μ (setBlk M B x') W' ∧ Ext μ M W μ (setBlk M B x') W' := by
  have hlt := (hM.dom B r hB).2
  obtain ⟨g1, g2, g3⟩ := setObj_heap (W := W) (o2 := o2) hlt
  exact ⟨_, setObj_run ho hc, hM.update hb hl hB g3 g2 (hx _ g1), Ext.wrote hb hwr hB g3 g2 ⟨rfl, rfl, rfl⟩⟩

theorem all2_modify {R : MapEntry → MapEntry → Prop} {es es' : Array MapEntry} (h : All2 R es.toList es'.toList) {f g : MapEntry → MapEntry} (i : Nat) (hf : ∀ a b, R a b → R (f a) (g b)) : All2 R (es.modify i f).toList (es'.modify i g).toList := by
  refine .of_get (by simp [all2_length h]) fun j a b ha hb => ?_
  simp only [Array.getElem?_toList, Array.getElem?_modify] at ha hb
  split at ha
  · rename_i e
    subst e
    rw [if_pos rfl] at hb
    cases hx : es[i]? with
    | none => rw [hx] at ha; cases ha
    | some u =>
      cases hy : es'[i]? with
      | none => rw [hy] at hb; cases hb
      | some u' =>
        rw [hx] at ha; rw [hy] at hb
        cases ha; cases hb
        exact hf _ _ (h.rev_get i (by simpa using hx) (by simpa using hy))
  · rename_i e
    rw [if_neg e] at hb
    exact h.rev_get j (by simpa using ha) (by simpa using hb)

/-- What an operation that changes memory does. -/
def OpDoes (tb : Tab) (μ : Mu) (M : Mem) (W : World) (s : Sem Next) (v : Value) (M' : Mem) : Prop :=
  ∃ W' n v' μ', s.run tb.P W = .ok n W' ∧ (n = .value v' ∨ n = .skip ∧ v' = undef) ∧ VR μ' v v' ∧ MemR μ' M' W' ∧ Ext μ M W μ' M' W'

theorem Does.op {s : Sem Value} {v : Value} {M' : Mem} (h : Does tb μ M W s v M') : OpDoes tb μ M W (do pure (.value (← s))) v M' := by
  obtain ⟨W', v', μ', h1, h2⟩ := h
  exact ⟨W', _, v', μ', run_v h1, .inl rfl, h2⟩

theorem run_u {P : Program} {s : Sem Unit} {W W' : World} (h : s.run P W = .ok () W') : (do s; pure Next.skip : Sem Next).run P W = .ok .skip W' := by
  simp [h]

theorem unit_op {s : Sem Unit} {M' : Mem} {W' : World} (h : s.run tb.P W = .ok () W') (hm : MemR μ M' W') (he : Ext μ M W μ M' W') : OpDoes tb μ M W (do s; pure .skip) undef M' :=
  ⟨W', _, undef, μ, run_u h, .inr ⟨rfl, rfl⟩, VR.undef, hm, he⟩

theorem mapUpdate_sound (ht : TabOK tb) (hM : MemR μ M W) {t kt et : TypeId} {d : TypeDesc} {B clock : Nat} {es : Array MapEntry} {mv key key' v v' : Value} {r : Option (Nat × Value)} (hu : under tb t = some (.map kt et)) (hk : keyKind? tb kt = some d)
    (hb : getBlk M B = some (.obj (.map es clock))) (hm : VR μ (.map (some B)) mv) (hkey : VR μ key key') (hv : VR μ v v') (hc : closed 1 key = true) (hf : Instr.findNow d key es.toList 0 = some r) :
    OpDoes tb μ M W (do Instr.mapUpdate t mv key' v'; pure .skip) undef (setBlk M B (.obj (.map (match r with
      | some (i, _) => es.modify i fun e => { e with key := key, val := v }
      | none => es.push { key := key, val := v, born := clock }) (match r with | some _ => clock | none => clock + 1)))) := by
  have hke : key' = key := closed_eq 1 _ hc _ hkey
  subst hke
  obtain ⟨hk1, hk2⟩ := keyKind_ok ht hk
  have hck : ∀ (b : Bool) (v : Value), (Instr.checkKey b 10000 kt v).run tb.P W = .ok () W := fun b v => hk2 b 9999 v W
  cases hm with
  | @map _ rr hB =>
    have hbk := hM.blk B _ _ hb hB
    cases hbk with
    | obj hh h0 hok =>
      cases hok with
      | @map _ es' _ he =>
        have hg := getObj_run (P := tb.P) hh (by simp)
        obtain ⟨r', hf', hrel⟩ := findNow_rel hkey he 0 _ hf
        have hfk := findKey_run ht hk hf' W
        cases r with
        | none =>
          cases r' with
          | some q => exact hrel.elim
          | none =>
            obtain ⟨W', r1, r2, r3⟩ := obj_update (P := tb.P) (o2 := .map (es'.push { key := key', val := v', born := clock }) (clock + 1)) hM hb rfl rfl hB hh (by simp)
              (x' := .obj (.map (es.push { key := key', val := v, born := clock }) (clock + 1))) (fun W' hW => .obj hW h0 (.map (by
                rw [Array.toList_push, Array.toList_push]
                exact he.append (.cons ⟨hkey, hv, rfl⟩ .nil))))
            refine unit_op ?_ r2 r3
            simp only [Instr.mapUpdate, Sem.run_bind, run_under ht hu, Result.andThen_ok, hg, hck, hfk]
            exact r1
        | some q =>
          obtain ⟨i, u⟩ := q
          cases r' with
          | none => exact hrel.elim
          | some q' =>
            obtain ⟨i', u'⟩ := q'
            obtain ⟨rfl, _⟩ := hrel
            obtain ⟨e, _, he1, he2⟩ := findNow_at _ _ _ _ hf'
            have hstay : (Instr.keyThatStays (((es'[i]?).map (·.key)).getD key') key').run tb.P W = .ok key' W := by
              have : es'[i]? = some e := by simpa using he1
              rw [this]
              simp only [Option.map_some, Option.getD_some, Instr.keyThatStays, sameNow_bits he2, if_true]
              rfl
            obtain ⟨W', r1, r2, r3⟩ := obj_update (P := tb.P) (o2 := .map (es'.modify i fun e => { e with key := key', val := v' }) clock) hM hb rfl rfl hB hh (by simp)
              (x' := .obj (.map (es.modify i fun e => { e with key := key', val := v }) clock)) (fun W' hW => .obj hW h0 (.map (all2_modify he i fun a b hab => ⟨hkey, hv, hab.born⟩)))
            refine unit_op ?_ r2 r3
            simp only [Instr.mapUpdate, Sem.run_bind, run_under ht hu, Result.andThen_ok, hg, hck, hfk, hstay]
            exact r1

theorem range_sound (ht : TabOK tb) (hM : MemR μ M W) {t : TypeId} {s : ByteArray} {x' : Value} (hu : under tb t = some .string) (hx : VR μ (.string s) x') :
    Does tb μ M W (Instr.range t x') (.pointer (some ⟨M.next, 0, none⟩)) (newBlk M (.obj (.stringIter s 0))).2 := by
  rw [hx.string_eq]
  have hw : ({ W with heap := W.heap.push (.stringIter s 0) } : World).heap = W.heap.push (.stringIter s 0) := rfl
  obtain ⟨p1, p2⟩ := push_old hw
  refine ⟨{ W with heap := W.heap.push (.stringIter s 0) }, .pointer (some ⟨W.heap.size, 0, none⟩), μ.upd M.next ⟨W.heap.size, 0, 0, 0⟩, ?_, .ptr (r := ⟨W.heap.size, 0, 0, 0⟩) Mu.upd_same, ?_, Ext.newBlock hM rfl p1 p2 ⟨rfl, rfl, rfl⟩⟩
  · simp [Instr.range, run_under ht hu]
  · exact (hM.ghost _).place (by rw [getBlk_new, if_pos rfl]) hM.fresh rfl p1 p2 (.obj (by simp) rfl .stringIter)

theorem next_sound (hM : MemR μ M W) {B : Nat} {s : ByteArray} {pos : Nat} {x' : Value} (ty : TypeId) (hx : VR μ (.pointer (some ⟨B, 0, none⟩)) x') (hb : getBlk M B = some (.obj (.stringIter s pos))) :
    (pos < s.size → Does tb μ M W (Instr.next x' true ty) (.tuple #[.bool true, .int .i64 pos, .int .i32 (Utf8.decode s pos).1]) (setBlk M B (.obj (.stringIter s (pos + (Utf8.decode s pos).2))))) ∧
      (¬ pos < s.size → Does tb μ M W (Instr.next x' true ty) (.tuple #[.bool false]) M) := by
  cases hx with
  | @ptr _ _ r hB =>
    have hbk := hM.blk B _ _ hb hB
    cases hbk with
    | obj hh h0 hok =>
      cases hok with
      | stringIter =>
        rw [h0, Nat.add_zero]
        have hg := getObj_run (P := tb.P) hh (by simp)
        refine ⟨fun hp => ?_, fun hp => ?_⟩
        · obtain ⟨W', r1, r2, r3⟩ := obj_update (P := tb.P) (o2 := .stringIter s (pos + (Utf8.decode s pos).2)) hM hb rfl rfl hB hh (by simp)
            (x' := .obj (.stringIter s (pos + (Utf8.decode s pos).2))) (fun W' hW => .obj hW h0 .stringIter)
          refine ⟨W', _, μ, ?_, VR.tuple2 (.cons (.bool _) (.cons (.int _ _) (.cons (.int _ _) .nil))), r2, r3⟩
          simp only [Instr.next, Sem.run_bind, hg, Result.andThen_ok, hp, if_true, r1, Sem.run_pure, goInt]
        · refine ⟨W, _, μ, ?_, VR.tuple2 (.cons (.bool _) .nil), hM, Ext.rfl⟩
          simp only [Instr.next, Sem.run_bind, hg, Result.andThen_ok, hp, if_false, Sem.run_pure]

end
end Go.Ab
