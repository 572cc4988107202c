import Derived.Test.YtjjlhemenokdhaaGreatAbNoisy
namespace Go.Ab
section
variable {tb : Tab} {μ : Mu} {W : World} {M : Mem}

theorem freeze_size (W : World) (a : Addr) (n : Nat) : (W.freeze a n).heap.size = W.heap.size := by
  unfold World.freeze; split <;> simp
theorem freeze_same (W : World) (a : Addr) (n : Nat) : WSame W (W.freeze a n) := by
  unfold World.freeze; split <;> exact ⟨rfl, rfl, rfl⟩
theorem freeze_other (W : World) (a : Addr) (n c : Nat) (h : c ≠ a.block) : (W.freeze a n).heap[c]? = W.heap[c]? := by
  unfold World.freeze
  split
  · rfl
  · simp [Array.getElem?_modify, Ne.symm h]
theorem freeze_at (W : World) (a : Addr) (n : Nat) {arr : Array Value} {e : TypeId} {fz : Nat × Nat} (h : W.heap[a.block]? = some (.cells arr e fz)) (hn : n ≠ 0) :
    (W.freeze a n).heap[a.block]? = some (.cells arr e (if fz.1 == fz.2 then (a.off, a.off + n) else (min fz.1 a.off, max fz.2 (a.off + n)))) := by
  obtain ⟨lo, hi⟩ := fz
  unfold World.freeze
  rw [if_neg hn]
  simp [Array.getElem?_modify, h]

theorem stringish_run {P : Program} {a : Addr} {arr : Array Value} {e : TypeId} {fz : Nat × Nat} (h : W.heap[a.block]? = some (.cells arr e fz)) :
    (markStringish a).run P W = .ok () (W.freeze ⟨a.block, arr.size, none⟩ 1) := by
  simp [markStringish, shape_of h]

theorem toBytes_sound (ht : TabOK tb) (hM : MemR μ M W) {src dst e : TypeId} {s : ByteArray} {x' : Value} {d : TypeDesc} (hs : under tb src = some d) (hd : under tb dst = some (.slice e)) (he : under tb e = some (.int .u8)) (hx : VR μ (.string s) x') :
    Does tb μ M W (convert src dst x') (.slice (some ⟨M.next, 0, none⟩) s.size capOpen) (newBlk M (.cells (T.nil.fill 0 (s.data.toList.map fun b => .int .u8 b.toNat)) #[] s.size true false e 1)).2 := by
  rw [hx.string_eq]
  -- the capacity
  obtain ⟨cap, W1, hc, hch, hw1⟩ : ∃ cap W1, s.size ≤ cap ∧ (choose (.appendCap s.size 0 e)).run tb.P W = .ok cap W1 ∧ W1.heap = W.heap ∧ WSame W W1 :=
    ⟨_, { W with drawn := W.drawn + 1 }, cut_ge s.size 0 e (W.tape W.drawn (.appendCap s.size 0 e)), by simp [Question.forced], rfl, rfl, rfl, rfl⟩
  let arr : Array Value := s.data.map (fun b => Value.int .u8 b.toNat) ++ Array.replicate (cap - s.size) (.int .u8 0)
  let W2 : World := { W1 with heap := W1.heap.push (.cells arr e) }
  have harr : arr.size = cap := by
    have h0 : s.data.size = s.size := rfl
    simp only [arr, Array.size_append, Array.size_map, Array.size_replicate, h0]
    omega
  have hsz1 : W1.heap.size = W.heap.size := by rw [hw1.1]
  have hat2 : W2.heap[W1.heap.size]? = some (.cells arr e (0, 0)) := by simp [W2]
  have hst : (markStringish ⟨W1.heap.size, 0, none⟩).run tb.P W2 = .ok () (W2.freeze ⟨W1.heap.size, arr.size, none⟩ 1) := stringish_run (a := ⟨W1.heap.size, 0, none⟩) hat2
  have hrun : (convert src dst (.string s)).run tb.P W = .ok (.slice (some ⟨W1.heap.size, 0, none⟩) s.size cap) (W2.freeze ⟨W1.heap.size, arr.size, none⟩ 1) := by
    have h1 : (convert src dst (.string s)).run tb.P W = (Conv.stringToBytes e s).run tb.P W := by
      simp only [convert, Sem.run_bind, run_under ht hs, run_under ht hd, Result.andThen_ok]
      cases d <;> simp [run_under ht he]
    rw [h1]
    simp only [Conv.stringToBytes, Sem.run_bind, hch, Result.andThen_ok, newRow_run]
    rw [hst]
    rfl
  have hp1 : (W2.freeze ⟨W1.heap.size, arr.size, none⟩ 1).heap.size = W.heap.size + 1 := by rw [freeze_size]; simp [W2, hsz1]
  have hp2 : ∀ c, c < W.heap.size → (W2.freeze ⟨W1.heap.size, arr.size, none⟩ 1).heap[c]? = W.heap[c]? := by
    intro c hc
    rw [freeze_other _ _ _ _ (by show c ≠ W1.heap.size; omega)]
    show (W1.heap.push _)[c]? = _
    rw [Array.getElem?_push, if_neg (by omega), hw1.1]
  have hsame : WSame W (W2.freeze ⟨W1.heap.size, arr.size, none⟩ 1) := hw1.2.trans (WSame.trans (show WSame W1 W2 from ⟨rfl, rfl, rfl⟩) (freeze_same W2 _ _))
  have hat : (W2.freeze ⟨W1.heap.size, arr.size, none⟩ 1).heap[W1.heap.size]? = some (.cells arr e (arr.size, arr.size + 1)) := by
    have := freeze_at W2 ⟨W1.heap.size, arr.size, none⟩ 1 hat2 (by omega)
    simpa using this
  refine ⟨_, _, μ.upd M.next ⟨W1.heap.size, 0, cap, 1⟩, hrun, ?_, ?_, Ext.newBlock hM hsz1 hp1 hp2 hsame⟩
  · exact .slcOpen (r := ⟨W1.heap.size, 0, cap, 1⟩) Mu.upd_same (by simp) hc
  · refine (hM.ghost _).place (by rw [getBlk_new, if_pos rfl]) hM.fresh hsz1 hp1 hp2 (.cells hat ⟨.inr (Nat.le_refl _), rfl, by simp [harr], hc, by simp, ?_⟩)
    have hr : All2 (VR (μ.upd M.next ⟨W1.heap.size, 0, cap, 1⟩)) (s.data.toList.map fun b => Value.int .u8 b.toNat) (s.data.toList.map fun b => Value.int .u8 b.toNat) := All2.of_map _ fun b _ => .int _ _
    have hl : (s.data.toList.map fun b => Value.int .u8 b.toNat).length = s.size := by rw [List.length_map]; rfl
    refine grown_cells (fun i hi => cell_fill0 _ _ (by omega)) hl hr fun i hi => ?_
    rw [Nat.zero_add]
    show arr[i]? = _
    have : i < (s.data.map (fun b => Value.int .u8 b.toNat)).size := by rw [Array.size_map]; exact hi
    rw [Array.getElem?_append_left this]
    simp

/-- Cells that are marked: what lies there stays. -/
theorem mark_sound (hM : MemR μ M W) {B : Nat} {c : T Value} {d : Array Value} {n : Nat} {opn : Bool} {elem : TypeId} {es : Nat} {r : Ref} {arr : Array Value} {e : TypeId} {fz : Nat × Nat}
    (hb : getBlk M B = some (.cells c d n opn false elem es)) (hB : μ B = some r) (hh : W.heap[r.blk]? = some (.cells arr e fz)) :
    MemR μ M (W.freeze ⟨r.blk, arr.size, none⟩ 1) ∧ Ext μ M W μ M (W.freeze ⟨r.blk, arr.size, none⟩ 1) := by
  have hsz := freeze_size W ⟨r.blk, arr.size, none⟩ 1
  have hoth : ∀ c, c ≠ r.blk → (W.freeze ⟨r.blk, arr.size, none⟩ 1).heap[c]? = W.heap[c]? := fun c hc => freeze_other W ⟨r.blk, arr.size, none⟩ 1 c hc
  have hbk := hM.blk B _ r hb hB
  have hnew : BlkR μ (W.freeze ⟨r.blk, arr.size, none⟩ 1) r (.cells c d n opn false elem es) := by
    cases hbk with
    | cells hh' hk =>
      rw [hh] at hh'
      cases hh'
      have hat := freeze_at W ⟨r.blk, arr.size, none⟩ 1 hh (by omega)
      refine .cells hat ⟨?_, hk.es, hk.room, hk.le, hk.exact_, hk.at_⟩
      by_cases h1 : fz.1 = fz.2
      · right; simp [h1]
      · right
        have := hk.fz.resolve_left h1
        simp [h1]; omega
  refine ⟨⟨fun C s hC => ⟨(hM.dom C s hC).1, by rw [hsz]; exact (hM.dom C s hC).2⟩, fun C y s hy hC => ?_, hM.inj, hM.past⟩, ⟨Nat.le_refl _, fun _ _ => rfl, Mu.le.rfl, fun _ _ _ => rfl, by omega, fun _ _ h => h, fun q hq hn => hoth q fun e => hn ⟨B, r, _, hB, hb, rfl, e.symm⟩, freeze_same W _ _⟩⟩
  by_cases e : C = B
  · subst e; rw [hb] at hy; cases hy; rw [hB] at hC; cases hC; exact hnew
  · by_cases ly : live y = true
    · exact (hM.blk C y s hy hC).mono Mu.le.rfl fun _ => hoth _ (hM.inj C B y _ s r e hy ly hb rfl hC hB)
    · cases y <;> first | exact .dead | exact absurd rfl ly

theorem sameBytes_sound (ht : TabOK tb) (hM : MemR μ M W) {src e e2 : TypeId} {a : Addr} {n cap : Nat} {x' : Value} {c : T Value} {d : Array Value} {k : Nat} {opn : Bool} {elem : TypeId} {es : Nat}
    (hs : under tb src = some (.slice e2)) (hd : under tb src = some (.slice e)) (he : under tb e = some (.int .u8)) (hx : VR μ (.slice (some a) n cap) x') (hb : getBlk M a.block = some (.cells c d k opn false elem es)) (hn : 0 < n) :
    Does tb μ M W (convert src src x') (.slice (some a) n cap) M := by
  obtain ⟨a', c', rfl, hA⟩ := slice_addr hx
  obtain ⟨B, o, r, rfl, hB, rfl⟩ := hA hn
  have hbk := hM.blk B _ r hb hB
  cases hbk with
  | cells hh hk =>
    rename_i arr fz
    obtain ⟨h1, h2⟩ := mark_sound hM hb hB hh
    refine ⟨_, _, μ, ?_, hx, h1, h2⟩
    have hst := stringish_run (P := tb.P) (a := ⟨r.blk, r.off + o, none⟩) hh
    simp only [convert, Sem.run_bind, run_under ht hs, Result.andThen_ok]
    rw [hs] at hd
    cases hd
    simp only [Sem.run_bind, run_under ht he, beq_self_eq_true, Result.andThen_ok, hst, Sem.run_pure]

theorem loadBytes_run {P : Program} : ∀ (ns : List Int) (a : Addr) (acc : ByteArray), (∀ j v, (ns.map (Value.int .u8))[j]? = some v → W.cell? (a.add j) = some v) →
    (loadBytes a acc ns.length).run P W = .ok (ns.foldl (fun r n => r.push (UInt8.ofNat n.toNat)) acc) W
  | [], a, acc, _ => rfl
  | n :: ns, a, acc, h => by
    have h0 : W.cell? a = some (.int .u8 n) := by
      have := h 0 (.int .u8 n) (by simp)
      have e : a.add 0 = a := by unfold Addr.add; simp
      rwa [e] at this
    have ih := loadBytes_run (P := P) ns (a.add 1) (acc.push (UInt8.ofNat n.toNat)) (fun j v hj => by
      have := h (j + 1) v (by simpa using hj)
      have e : (a.add 1).add j = a.add (j + 1) := by
        unfold Addr.add
        by_cases hj : j = 0
        · subst hj; simp
        · simp [hj]; omega
      rw [e]; exact this)
    simp only [List.length_cons, loadBytes, Sem.run_bind, run_load, h0, Result.andThen_ok, List.foldl_cons]
    exact ih

theorem unsafeString_sound (ht : TabOK tb) (hM : MemR μ M W) {t u ty t2 : TypeId} {a : Addr} {n k : Nat} {kk : IntKind} {pv lv : Value} {vs : List Value} {l : List UInt8} {c : T Value} {d : Array Value} {opn : Bool} (hu : under tb t = some (.pointer u))
    (hp : VR μ (.pointer (some a)) pv) (hl : VR μ (.int kk ((n + 1 : Nat) : Int)) lv) (hb : getBlk M a.block = some (.cells c d k opn false u 1)) (hsu : sizeOf? tb u = some 1) (hr : readCells M a (n + 1) = some vs) (hbs : bytesOf? vs = some l) (hlim : n + 1 ≤ 2 ^ 40) :
    Does tb μ M W (Builtin.unsafeString_ #[t, t2] ty #[pv, lv]) (.string ⟨l.toArray⟩) (setBlk M a.block .dead) := by
  rw [hl.int_eq]
  obtain ⟨a', rfl, hA⟩ := AddrR.of_ptr hp
  obtain ⟨ns, rfl, rfl⟩ := bytesOf_ints vs l hbs
  obtain ⟨vs', h1, h2, h3⟩ := readCells_sound hM.toReadR hr (fun _ => hA)
  have e := all2_ints h1
  subst e
  obtain ⟨B, o, r, rfl, hB, rfl⟩ := hA
  have hbk := hM.blk B _ r hb hB
  have hnl : ns.length = n + 1 := by simpa using h2
  cases hbk with
  | cells hh hk =>
    rename_i arr fz
    have hlb := loadBytes_run (P := tb.P) ns ⟨r.blk, r.off + o, none⟩ .empty h3
    rw [hnl, foldl_push] at hlb
    -- all bytes lie there
    have hroom : r.off + o + (n + 1) ≤ arr.size := by
      have := h3 n (.int .u8 ns[n]) (by simp [hnl])
      rw [Addr.add_mk, cell?_of hh] at this
      rcases Nat.lt_or_ge (r.off + o + n) arr.size with h0 | h0
      · omega
      · rw [Array.getElem?_eq_none h0] at this; cases this
    have hcells := cellsOf_of ht hsu
    have hdep : tb.P.depth = (2 * (tb.P.types.size + Made.depth) + 1) + 1 := rfl
    have hlies : liesAt tb.P tb.P.depth u (arr.size / tb.P.cellsOf u) (r.off + o) u (n + 1) = true := by
      rw [hdep]
      simp only [liesAt, Bool.or_eq_true]
      left
      rw [hdep]
      simp [rowAt, hcells, hroom, sameLayout, Nat.mod_one]
    have hva : (variablesAt ⟨r.blk, r.off + o, none⟩ u (n + 1)).run tb.P W = .ok true W := by
      simp only [variablesAt, Sem.run_bind, run_program, Result.andThen_ok, run_shape, shape_of hh]
      simp [hlies]
    have hsz := freeze_size W ⟨r.blk, r.off + o, none⟩ (n + 1)
    refine ⟨W.freeze ⟨r.blk, r.off + o, none⟩ (n + 1), .string ⟨(ns.map fun n => UInt8.ofNat n.toNat).toArray⟩, μ, ?_, .string _, ?_, ?_⟩
    · have hmax : ¬ (((n + 1 : Nat) : Int) > IntKind.i64.max) := by
        have : IntKind.i64.max = 9223372036854775807 := rfl
        rw [this]; omega
      have hneg : ¬ (((n + 1 : Nat) : Int) < 0) := by omega
      have hzero : ¬ (((n + 1 : Nat) : Int) = 0) := by omega
      have helem : (elemOf t).run tb.P W = .ok u W := by simp [elemOf, run_under ht hu]
      have htn : ((n + 1 : Nat) : Int).toNat = n + 1 := Int.toNat_natCast _
      have hdef : Builtin.unsafeString_ #[t, t2] ty #[.pointer (some ⟨r.blk, r.off + o, none⟩), .int kk ((n + 1 : Nat) : Int)] =
          (do
            let n ← asInt (.int kk ((n + 1 : Nat) : Int))
            if n < 0 then runtimePanic (.error "unsafe.String: len out of range")
            if n > IntKind.i64.max then unsupported (.unsafePointer "String: a length above the largest int")
            if n = 0 then pure (.string .empty)
            else if ← variablesAt ⟨r.blk, r.off + o, none⟩ (← elemOf t) n.toNat then do
              let s ← loadBytes ⟨r.blk, r.off + o, none⟩ .empty n.toNat
              freeze ⟨r.blk, r.off + o, none⟩ n.toNat
              pure (.string s)
            else unsupported (.unsafePointer "String: not so many bytes at ptr")) := rfl
      rw [hdef]
      simp only [asInt, asIntOf, Sem.run_bind, Sem.run_pure, Result.andThen_ok, hneg, hmax, hzero, if_false, helem, htn, hva, if_true, hlb, run_freeze]
      simp [ByteArray.empty, ByteArray.emptyWithCapacity]
      rfl
    · refine hM.update hb rfl hB hsz (fun c hc => freeze_other W ⟨r.blk, r.off + o, none⟩ (n + 1) c hc) .dead
    · exact Ext.wrote hb rfl hB hsz (fun c hc => freeze_other W ⟨r.blk, r.off + o, none⟩ (n + 1) c hc) (freeze_same W _ _)

end
end Go.Ab
