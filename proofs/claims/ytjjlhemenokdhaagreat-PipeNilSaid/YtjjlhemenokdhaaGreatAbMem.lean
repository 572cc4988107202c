import Derived.Test.YtjjlhemenokdhaaGreatAbPure5
namespace Go.Ab

/-- Temporaries. -/
structure TmpsR (μ : Mu) (nt : Nat) (t : T Value) (a : Array Value) : Prop where
  size : a.size = nt
  at_ : ∀ i, VR μ (match t.get i with | some v => v | none => undef) (a.getD i undef)

inductive TargetR (μ : Mu) : Target → Target → Prop
  | fn {f f' : Fn} {c c' : Array Value} (hf : FnR μ f f') (hc : All2 (VR μ) c.toList c'.toList) : TargetR μ (.fn f c) (.fn f' c')
  | collected {b : Nat} {r : Ref} (h : μ b = some r) : TargetR μ (.collected b) (.collected r.blk)

structure DefR (μ : Mu) (d d' : Deferred) : Prop where
  target : TargetR μ d.target d'.target
  args : All2 (VR μ) d.args.toList d'.args.toList

structure EntR (μ : Mu) (e e' : MapEntry) : Prop where
  key : VR μ e.key e'.key
  val : VR μ e.val e'.val
  born : e.born = e'.born

inductive ObjR (μ : Mu) : Obj → Obj → Prop
  | map {es es' : Array MapEntry} {c : Nat} (h : All2 (EntR μ) es.toList es'.toList) : ObjR μ (.map es c) (.map es' c)
  | stringIter {s : ByteArray} {p : Nat} : ObjR μ (.stringIter s p) (.stringIter s p)
  | defNone : ObjR μ (.deferred none) (.deferred none)
  | defSome {l l' : List Deferred} (h : All2 (DefR μ) l l') : ObjR μ (.deferred (some l)) (.deferred (some l'))

structure CellsR (μ : Mu) (c : T Value) (d : Array Value) (n : Nat) (opn : Bool) (elem : TypeId) (es : Nat) (r : Ref) (arr : Array Value) (fz : Nat × Nat) : Prop where
  fz : fz.1 = fz.2 ∨ arr.size ≤ fz.1
  es : r.es = es
  room : r.off + r.room ≤ arr.size
  le : n ≤ r.room
  exact_ : opn = false → r.off = 0 ∧ r.room = n ∧ arr.size = n
  at_ : ∀ i, i < n → ∃ v v', cellAt c d i = some v ∧ arr[r.off + i]? = some v' ∧ VR μ v v'

inductive BlkR (μ : Mu) (W : World) (r : Ref) : Blk → Prop
  | cells {c : T Value} {d : Array Value} {n : Nat} {opn ro : Bool} {elem : TypeId} {es : Nat} {arr : Array Value} {fz : Nat × Nat}
      (h : W.heap[r.blk]? = some (.cells arr elem fz)) (k : CellsR μ c d n opn elem es r arr fz) : BlkR μ W r (.cells c d n opn ro elem es)
  | obj {o o' : Obj} (h : W.heap[r.blk]? = some o') (h0 : r.off = 0) (k : ObjR μ o o') : BlkR μ W r (.obj o)
  | loop {state : LoopState} {pending : Option Code} {fn : FuncId} {nt : Nat} {tmps : T Value} {params : Array Tmp} {assign body : Code} {d : Nat} {rd : Ref} {tmps' : Array Value}
      (h : W.heap[r.blk]? = some (.loop { state, pending, fn, tmps := tmps', params, assign, body, defers := rd.blk })) (hd : μ d = some rd) (ht : TmpsR μ nt tmps tmps') :
      BlkR μ W r (.loop state pending fn nt tmps params assign body d)
  | dead : BlkR μ W r .dead

def live : Blk → Bool
  | .dead => false
  | _ => true

structure ReadR (μ : Mu) (M : Mem) (W : World) : Prop where
  blk : ∀ B x r, getBlk M B = some x → μ B = some r → BlkR μ W r x

structure MemR (μ : Mu) (M : Mem) (W : World) : Prop where
  dom : ∀ B r, μ B = some r → B < M.next ∧ r.blk < W.heap.size
  blk : ∀ B x r, getBlk M B = some x → μ B = some r → BlkR μ W r x
  inj : ∀ B C x y r s, B ≠ C → getBlk M B = some x → live x = true → getBlk M C = some y → live y = true → μ B = some r → μ C = some s → r.blk ≠ s.blk
  past : ∀ B, M.next ≤ B → getBlk M B = none

theorem MemR.toReadR {μ : Mu} {M : Mem} {W : World} (h : MemR μ M W) : ReadR μ M W := ⟨h.blk⟩

variable {μ ν : Mu}

theorem TmpsR.mono {nt : Nat} {t : T Value} {a : Array Value} (h : TmpsR μ nt t a) (hm : μ.le ν) : TmpsR ν nt t a := ⟨h.size, fun i => (h.at_ i).mono hm⟩
theorem TargetR.mono {t t' : Target} (h : TargetR μ t t') (hm : μ.le ν) : TargetR ν t t' := by
  cases h with
  | fn hf hc => exact .fn (hf.mono hm) (hc.vmono hm)
  | collected h => exact .collected (hm _ _ h)
theorem DefR.mono {d d' : Deferred} (h : DefR μ d d') (hm : μ.le ν) : DefR ν d d' := ⟨h.target.mono hm, h.args.vmono hm⟩
theorem EntR.mono {d d' : MapEntry} (h : EntR μ d d') (hm : μ.le ν) : EntR ν d d' := ⟨h.key.mono hm, h.val.mono hm, h.born⟩
theorem ObjR.mono {o o' : Obj} (h : ObjR μ o o') (hm : μ.le ν) : ObjR ν o o' := by
  cases h with
  | map h => exact .map (h.mono fun _ _ h => h.mono hm)
  | stringIter => exact .stringIter
  | defNone => exact .defNone
  | defSome h => exact .defSome (h.mono fun _ _ h => h.mono hm)
theorem CellsR.mono {c : T Value} {d : Array Value} {n : Nat} {opn : Bool} {elem : TypeId} {es : Nat} {r : Ref} {arr : Array Value} {fz : Nat × Nat}
    (h : CellsR μ c d n opn elem es r arr fz) (hm : μ.le ν) : CellsR ν c d n opn elem es r arr fz :=
  ⟨h.fz, h.es, h.room, h.le, h.exact_, fun i hi => let ⟨v, v', h1, h2, h3⟩ := h.at_ i hi; ⟨v, v', h1, h2, h3.mono hm⟩⟩

/-- A block's relation hangs on its own concrete block alone. -/
theorem BlkR.mono {W W' : World} {r : Ref} {x : Blk} (h : BlkR μ W r x) (hm : μ.le ν) (hw : live x = true → W'.heap[r.blk]? = W.heap[r.blk]?) : BlkR ν W' r x := by
  cases h with
  | cells h k => exact .cells ((hw rfl).trans h) (k.mono hm)
  | obj h h0 k => exact .obj ((hw rfl).trans h) h0 (k.mono hm)
  | loop h hd ht => exact .loop ((hw rfl).trans h) (hm _ _ hd) (ht.mono hm)
  | dead => exact .dead

/-- Addresses that stand for one another, where anything is read or written there. -/
def AddrR (μ : Mu) (a a' : Addr) : Prop := ∃ B o r, a = ⟨B, o, none⟩ ∧ μ B = some r ∧ a' = ⟨r.blk, r.off + o, none⟩

theorem AddrR.of_ptr {a : Addr} {v' : Value} (h : VR μ (.pointer (some a)) v') : ∃ a', v' = .pointer (some a') ∧ AddrR μ a a' := by
  cases h with
  | ptr h => exact ⟨_, rfl, _, _, _, rfl, h, rfl⟩

theorem AddrR.ptr {a a' : Addr} (h : AddrR μ a a') : VR μ (.pointer (some a)) (.pointer (some a')) := by
  obtain ⟨B, o, r, rfl, h, rfl⟩ := h
  exact .ptr h

theorem AddrR.add {a a' : Addr} (h : AddrR μ a a') (n : Nat) : AddrR μ (a.add n) (a'.add n) := by
  obtain ⟨B, o, r, rfl, h, rfl⟩ := h
  exact ⟨B, o + n, r, Addr.add_mk _ _ _, h, by rw [Addr.add_mk, Nat.add_assoc]⟩

/-- A slice's array, if it has a member. -/
theorem slice_addr {a : Addr} {n c : Nat} {v' : Value} (h : VR μ (.slice (some a) n c) v') : ∃ a' c', v' = .slice (some a') n c' ∧ (0 < n → AddrR μ a a') := by
  cases h with
  | slc h _ _ => exact ⟨_, _, rfl, fun _ => ⟨_, _, _, rfl, h, rfl⟩⟩
  | slcOpen h _ _ => exact ⟨_, _, rfl, fun _ => ⟨_, _, _, rfl, h, rfl⟩⟩
  | slcTail _ => exact ⟨_, _, rfl, fun h => absurd h (Nat.lt_irrefl 0)⟩
  | slcZero => exact ⟨_, _, rfl, fun h => absurd h (Nat.lt_irrefl 0)⟩

theorem cell?_of {W : World} {b o : Nat} {arr : Array Value} {e : TypeId} {fz : Nat × Nat} (h : W.heap[b]? = some (.cells arr e fz)) : W.cell? ⟨b, o, none⟩ = arr[o]? := by
  simp [World.cell?, h]

theorem readFrom_sound {c : T Value} {d : Array Value} {n : Nat} {arr : Array Value} {off : Nat} (hat : ∀ i, i < n → ∃ v v', cellAt c d i = some v ∧ arr[off + i]? = some v' ∧ VR μ v v') :
    ∀ (k o : Nat) (vs : List Value), readFrom c d n o k = some vs → ∃ vs', All2 (VR μ) vs vs' ∧ vs.length = k ∧ o + k ≤ n + (if k = 0 then o else 0) ∧ ∀ j v, vs'[j]? = some v → arr[off + (o + j)]? = some v := by
  intro k
  induction k with
  | zero =>
    intro o vs h
    simp only [readFrom, Option.some.injEq] at h
    subst h
    exact ⟨[], .nil, rfl, by simp, by simp⟩
  | succ k ih =>
    intro o vs h
    simp only [readFrom] at h
    obtain ⟨hlt, h⟩ := bif_some h
    have hlt := lt_of_blt hlt
    obtain ⟨v, v', h1, h2, h3⟩ := hat o hlt
    rw [h1] at h
    simp only at h
    cases hr : readFrom c d n (o + 1) k with
    | none => rw [hr] at h; cases h
    | some ws =>
      rw [hr] at h
      cases h
      obtain ⟨ws', a1, a2, a3, a4⟩ := ih (o + 1) ws hr
      refine ⟨v' :: ws', .cons h3 a1, by simp [a2], ?_, ?_⟩
      · split
        · omega
        · split at a3 <;> omega
      · intro j u hj
        cases j with
        | zero => simp at hj; subst hj; simpa using h2
        | succ j =>
          have := a4 j u (by simpa using hj)
          rw [show o + (j + 1) = o + 1 + j by omega]
          exact this

theorem readCells_sound {M : Mem} {W : World} (hM : ReadR μ M W) {a a' : Addr} {k : Nat} {vs : List Value} (h : readCells M a k = some vs) (ha : 0 < k → AddrR μ a a') :
    ∃ vs', All2 (VR μ) vs vs' ∧ vs.length = k ∧ ∀ j v, vs'[j]? = some v → W.cell? (a'.add j) = some v := by
  cases k with
  | zero =>
    simp only [readCells, Option.some.injEq] at h
    subst h
    exact ⟨[], .nil, rfl, by simp⟩
  | succ k =>
    obtain ⟨B, o, r, rfl, hB, rfl⟩ := ha (by omega)
    simp only [readCells] at h
    cases hb : getBlk M B with
    | none => rw [hb] at h; cases h
    | some x =>
      rw [hb] at h
      cases x <;> first | (cases h; done) | skip
      rename_i c d n opn ro elem es
      simp only at h
      have hx := hM.blk B _ r hb hB
      cases hx with
      | cells hh hk =>
        obtain ⟨vs', h1, h2, h3, h4⟩ := readFrom_sound hk.at_ (k + 1) o vs h
        refine ⟨vs', h1, h2, fun j v hj => ?_⟩
        rw [Addr.add_mk, cell?_of hh, Nat.add_assoc]
        exact h4 j v hj

theorem loadCellsFrom_run {P : Program} {W : World} {a : Addr} : ∀ (vs : List Value) (i : Nat) (acc : Array Value), (∀ j v, vs[j]? = some v → W.cell? (a.add (i + j)) = some v) →
    (loadCellsFrom a i vs.length acc).run P W = .ok (acc ++ vs.toArray) W
  | [], i, acc, _ => by simp [loadCellsFrom]
  | v :: vs, i, acc, h => by
    have h0 := h 0 v (by simp)
    simp only [Nat.add_zero] at h0
    simp only [List.length_cons, loadCellsFrom, Sem.run_bind, run_load, h0, Result.andThen_ok]
    rw [loadCellsFrom_run vs (i + 1) (acc.push v) (fun j u hj => by
      have := h (j + 1) u (by simpa using hj)
      rw [show i + 1 + j = i + (j + 1) by omega]; exact this)]
    simp

theorem loadCells_run {P : Program} {W : World} {a : Addr} {vs : List Value} {n : Nat} (hn : vs.length = n) (h : ∀ j v, vs[j]? = some v → W.cell? (a.add j) = some v) :
    (loadCells a n).run P W = .ok vs.toArray W := by
  subst hn
  have := loadCellsFrom_run (P := P) (W := W) (a := a) vs 0 #[] (fun j v hj => by simpa using h j v hj)
  simpa [loadCells] using this

theorem load_sound {tb : Tab} (ht : TabOK tb) {M : Mem} {W : World} (hM : ReadR μ M W) {t : TypeId} {a a' : Addr} {v : Value} (h : load? tb t a M = some v) (ha : AddrR μ a a') :
    ∃ v', (loadVar t a').run tb.P W = .ok v' W ∧ VR μ v v' := by
  unfold load? at h
  cases hg : isAgg? tb t with
  | none => rw [hg] at h; cases h
  | some b =>
    rw [hg] at h
    cases hs : sizeOf? tb t with
    | none => rw [hs] at h; cases b <;> cases h
    | some n =>
      rw [hs] at h
      cases b with
      | true =>
        obtain ⟨vs, hvs, rfl⟩ := map_some h
        obtain ⟨vs', h1, h2, h3⟩ := readCells_sound hM hvs (fun _ => ha)
        refine ⟨.agg vs'.toArray, ?_, VR.agg2 (by simpa using h1)⟩
        have hl := loadCells_run (P := tb.P) (W := W) (a := a') (vs := vs') (n := n) (by rw [← h2, h1.length]) h3
        simp [loadVar, run_agg ht hg, run_size ht hs, hl]
      | false =>
        simp only at h
        split at h
        · rename_i u hvs
          cases h
          obtain ⟨vs', h1, h2, h3⟩ := readCells_sound hM hvs (fun _ => ha)
          cases h1 with
          | cons hv hr =>
            cases hr
            rename_i v'
            have := h3 0 v' (by simp)
            have h0 : a'.add 0 = a' := by unfold Addr.add; simp
            rw [h0] at this
            exact ⟨v', by simp [loadVar, run_agg ht hg, this], hv⟩
        · cases h

end Go.Ab
