import Derived.Test.YtjjlhemenokdhaaGreatAbMem
import Derived.Laws.BytesString
namespace Go.Ab
section
variable {tb : Tab} {μ : Mu} {W : World} {M : Mem}

theorem sliceOpen_sound (ht : TabOK tb) (hM : ReadR μ M W) {t : TypeId} {x x' v : Value} {lo hi mx lo' hi' mx' : Option Value} (h : sliceOpen? tb t x lo hi mx M = some v) (hx : VR μ x x')
    (hl : OR μ lo lo') (hh : OR μ hi hi') (hm : OR μ mx mx') :
    ∃ v', (Instr.sliceAt t x' lo' hi' mx').run tb.P W = .ok v' W ∧ VR μ v v' := by
  unfold sliceOpen? at h
  cases hu : under tb t with
  | none => rw [hu] at h; cases h
  | some d =>
    rw [hu] at h
    have hr := run_under ht hu W
    cases d <;> first | (cases h; done) | skip
    rename_i elem
    cases x <;> first | (cases h; done) | skip
    rename_i a len cap
    cases a with
    | none => cases h
    | some a =>
    simp only at h
    obtain ⟨hc, h⟩ := bif_some h
    simp only [Bool.and_eq_true] at hc
    have hcap := eq_of_nbeq hc.1
    subst hcap
    cases hb : getBlk M a.block with
    | none => rw [hb] at h; cases h
    | some y =>
    rw [hb] at h
    cases y <;> first | (cases h; done) | skip
    rename_i c d n opn ro e es
    cases hbd : bounds? len capOpen lo hi mx with
    | none => rw [hbd] at h; cases h
    | some q =>
      obtain ⟨l, h', c'⟩ := q
      rw [hbd] at h
      cases hs : sizeOf? tb elem with
      | none => rw [hs] at h; cases h
      | some size =>
        rw [hs] at h
        simp only at h
        obtain ⟨hes, h⟩ := bif_some h
        have hes := eq_of_nbeq hes
        subst hes
        cases h
        have hrs := run_size ht hs W
        have key : ∀ (a' : Addr) (cap' : Nat), len ≤ cap' →
            ∃ m', (Instr.sliceAt t (.slice (some a') len cap') lo' hi' mx').run tb.P W = .ok (.slice (some (if m' = l then a' else a'.add (l * es))) (h' - l) (m' - l)) W ∧ l ≤ h' ∧ h' ≤ m' ∧ m' ≤ cap' ∧
              ((c' < capOpen ∧ c' = m' - l) ∨ (c' = capOpen ∧ m' = cap' ∧ h' ≤ len)) := by
          intro a' cap' h1
          obtain ⟨m', r, h1, h2, h3, h4⟩ := bounds_sound (tb := tb) (isSlice := true) hbd hl hh hm h1 (fun h => absurd h (Nat.lt_irrefl _)) W
          refine ⟨m', ?_, h1, h2, h3, ?_⟩
          · simp only [Instr.sliceAt, Sem.run_bind, hr, Result.andThen_ok, Instr.slice, r, hrs]
            by_cases e : m' = l
            · simp [e]
            · simp [e]
          · rcases h4 with h4 | ⟨_, h5, h6, h7⟩
            · exact .inl h4
            · exact .inr ⟨h5, h6, h7⟩
        cases hx with
        | slc _ hlt _ => exact absurd hlt (Nat.lt_irrefl _)
        | @slcOpen B o _ cc r hB hroom hn =>
          obtain ⟨m', rr, h1, h2, h3, h4⟩ := key _ cc hn
          refine ⟨_, rr, ?_⟩
          have hres : r.es = es := by
            have := hM.blk B _ r hb hB
            cases this with
            | cells _ hk => exact hk.es
          rcases h4 with ⟨h4, h5⟩ | ⟨h4, h5, h6⟩
          · rw [← h5]
            by_cases e : m' = l
            · rw [nbeq_eq (show c' = 0 by omega), if_pos e]
              exact .slc hB h4 (by omega)
            · rw [nbeq_ne (show c' ≠ 0 by omega), if_neg e]
              simp only [cond_false, Addr.add_mk, Nat.add_assoc]
              exact .slc hB h4 (by omega)
          · subst h4
            subst h5
            have hz : Nat.beq capOpen 0 = false := rfl
            rw [hz]
            simp only [cond_false, Addr.add_mk]
            by_cases e : m' = l
            · rw [if_pos e]
              have e0 : h' - l = 0 := by omega
              have e1 : m' - l = 0 := by omega
              rw [e0, e1]
              exact .slcTail hB
            · rw [if_neg e, Nat.add_assoc]
              refine .slcOpen hB ?_ (by omega)
              rw [← hroom, hres, Nat.add_assoc, ← Nat.add_mul]
              congr 2
              omega
        | slcTail hT =>
          obtain ⟨m', rr, h1, h2, h3, h4⟩ := key _ 0 (Nat.le_refl _)
          refine ⟨_, rr, ?_⟩
          have e1 : m' = 0 := by omega
          have e2 : l = 0 := by omega
          have e3 : h' = 0 := by omega
          subst e1 e2 e3
          rcases h4 with ⟨h4, h5⟩ | ⟨h4, h5, h6⟩
          · have : c' = 0 := by omega
            subst this
            exact .slcZero
          · subst h4
            have hz : Nat.beq capOpen 0 = false := rfl
            rw [hz]
            simp only [cond_false, Addr.add_mk]
            exact .slcTail hT

theorem bytesOf_ints : ∀ (vs : List Value) (l : List UInt8), bytesOf? vs = some l → ∃ ns : List Int, vs = ns.map (Value.int .u8) ∧ l = ns.map fun n => UInt8.ofNat n.toNat
  | [], l, h => by simp only [bytesOf?, Option.some.injEq] at h; subst h; exact ⟨[], rfl, rfl⟩
  | v :: vs, l, h => by
    cases v <;> first | (cases h; done) | skip
    rename_i k n
    cases k <;> first | (cases h; done) | skip
    simp only [bytesOf?] at h
    obtain ⟨l', hl, rfl⟩ := map_some h
    obtain ⟨ns, rfl, rfl⟩ := bytesOf_ints vs l' hl
    exact ⟨n :: ns, rfl, rfl⟩

theorem foldl_push : ∀ (ns : List Int) (s : ByteArray), ns.foldl (fun r n => r.push (UInt8.ofNat n.toNat)) s = ⟨s.data ++ (ns.map fun n => UInt8.ofNat n.toNat).toArray⟩
  | [], s => by simp
  | n :: ns, s => by
    rw [List.foldl_cons, foldl_push ns]
    simp [ByteArray.push]

theorem all2_ints {ns : List Int} {vs' : List Value} {k : IntKind} (h : All2 (VR μ) (ns.map (Value.int k)) vs') : vs' = ns.map (Value.int k) := by
  induction ns generalizing vs' with
  | nil => cases h; rfl
  | cons n ns ih =>
    cases h with
    | cons hv ht => rw [ih ht, hv.int_eq]; rfl

theorem bytesToString_sound (hM : ReadR μ M W) {a : Option Addr} {n c : Nat} {x' : Value} (hx : VR μ (.slice a n c) x') {v : Value}
    (h : textOf? M a n = some v) :
    (Conv.bytesToString x').run tb.P W = .ok v W ∧ VR μ v v := by
  unfold textOf? at h
  cases a with
  | none =>
    cases h
    cases hx
    exact ⟨rfl, .string _⟩
  | some a =>
    simp only at h
    cases hr : readCells M a n with
    | none => rw [hr] at h; cases h
    | some vs =>
      rw [hr] at h
      obtain ⟨l, hl, rfl⟩ := map_some h
      obtain ⟨ns, rfl, rfl⟩ := bytesOf_ints vs l hl
      obtain ⟨a', c', rfl, ha⟩ := slice_addr hx
      obtain ⟨vs', h1, h2, h3⟩ := readCells_sound hM hr ha
      have e := all2_ints h1
      subst e
      refine ⟨?_, .string _⟩
      rw [run_bytesToString W a' n c' ns (loadCells_run h2 h3), foldl_push]
      simp [ByteArray.empty, ByteArray.emptyWithCapacity]
      rfl

theorem shape_of {b : Nat} {arr : Array Value} {e : TypeId} {fz : Nat × Nat} (h : W.heap[b]? = some (.cells arr e fz)) : W.shape? b = some (e, arr.size) := by
  simp [World.shape?, h]

theorem viewAt_run {P : Program} {b : Nat} {arr : Array Value} {e : TypeId} {fz : Nat × Nat} (h : W.heap[b]? = some (.cells arr e fz)) : (viewAt b).run P W = .ok none W := by
  simp [viewAt, shape_of h]

theorem seenAt_run {P : Program} {a : Addr} {arr : Array Value} {e : TypeId} {fz : Nat × Nat} (h : W.heap[a.block]? = some (.cells arr e fz)) : (Conv.seenAt a).run P W = .ok a W := by
  unfold Conv.seenAt
  simp only [Sem.run_bind, viewAt_run h, Result.andThen_ok]
  rfl

theorem cellsOf_of (ht : TabOK tb) {t : TypeId} {n : Nat} (h : sizeOf? tb t = some n) : tb.P.cellsOf t = n := by
  unfold sizeOf? at h
  cases hi : tb.info.get t with
  | none => rw [hi] at h; cases h
  | some i => rw [hi] at h; cases h; simp [Program.cellsOf, ht.info _ _ hi]

theorem convert_read (ht : TabOK tb) (hM : ReadR μ M W) {ρ ρ' : Operand → Value} (hρ : ∀ x, VR μ (ρ x) (ρ' x)) {src dst' : TypeId} {x : Operand} {dst : Option Tmp} {ty : TypeId} {pos : String} {after : Array Edge} {guard : Option (Nat × Bool)} {v : Value}
    (h : aread tb ρ ⟨dst, .convert src dst' x, ty, pos, after, guard⟩ M = some v) :
    ∃ v', (convert src dst' (ρ' x)).run tb.P W = .ok v' W ∧ VR μ v v' := by
  have hx := hρ x
  simp only [aread] at h
  generalize ρ x = a at h hx
  generalize ρ' x = a' at hx ⊢
  split at h
  · rename_i e a n c hs hd
    split at h
    · rename_i he
      have h1 := bytesToString_sound (tb := tb) hM hx (v := v) h
      refine ⟨v, ?_, h1.2⟩
      obtain ⟨a2, l2, c2, rfl⟩ : ∃ a2 l2 c2, a' = .slice a2 l2 c2 := by cases hx <;> exact ⟨_, _, _, rfl⟩
      rw [run_convert_bytes_string W src dst' e a2 l2 c2 (under_ok ht hs) (under_ok ht he) (under_ok ht hd)]
      exact h1.1
    · cases h
  · rename_i e a hs hd
    split at h
    · rename_i _ c d n opn ro e' es k hsp hb hsz
      obtain ⟨hlt, h⟩ := bif_some h
      cases h
      have hlt := lt_of_blt hlt
      obtain ⟨a2, rfl, hA⟩ := AddrR.of_ptr hx
      refine ⟨_, ?_, hA.ptr⟩
      obtain ⟨B, o, r, rfl, hB, rfl⟩ := hA
      have hbk := hM.blk B _ r hb hB
      cases hbk with
      | cells hh hk =>
        rename_i arr fz
        have h1 := hk.room
        have h2 := hk.le
        simp only at hlt
        have h3 : ¬ (arr.size ≤ r.off + o) := by omega
        simp only [convert, Sem.run_bind, run_under ht hs, run_under ht hd, Result.andThen_ok, Conv.unsafePointer, seenAt_run (a := ⟨r.blk, r.off + o, none⟩) hh, cellsIn, run_shape, shape_of hh, run_size ht hsz]
        simp [h3]
    · cases h
  · rename_i u a hs hd
    split at h
    · rename_i _ c d n ro e es k hsp hb hsz
      obtain ⟨hc, h⟩ := bif_some h
      cases h
      simp only [Bool.and_eq_true] at hc
      obtain ⟨⟨⟨h0, h1⟩, h2⟩, h3⟩ := hc
      have h0 := eq_of_nbeq h0
      have h1 := eq_of_nbeq h1
      have h2 := eq_of_nbeq h2
      have h3 := eq_of_nbeq h3
      subst h3
      obtain ⟨a2, rfl, hA⟩ := AddrR.of_ptr hx
      refine ⟨_, ?_, hA.ptr⟩
      obtain ⟨B, o, r, rfl, hB, rfl⟩ := hA
      have hbk := hM.blk B _ r hb hB
      cases hbk with
      | cells hh hk =>
        rename_i arr fz
        obtain ⟨e1, e2, e3⟩ := hk.exact_ rfl
        simp only at h0
        subst h0
        have hcells := cellsOf_of ht hsz
        have hdep : tb.P.depth = (2 * (tb.P.types.size + Made.depth) + 1) + 1 := rfl
        have hlies : liesAt tb.P tb.P.depth e (arr.size / tb.P.cellsOf e) 0 e 1 = true := by
          rw [hdep]
          simp only [liesAt, Bool.or_eq_true]
          left
          rw [hdep]
          have hq : arr.size / (k + 1) = 1 := by rw [e3, h1, h2]; exact Nat.div_self (by omega)
          simp [rowAt, hcells, hq, sameLayout]
        have hva : (variablesAt ⟨r.blk, r.off + 0, none⟩ e 1).run tb.P W = .ok true W := by
          simp only [variablesAt, Sem.run_bind, run_program, Result.andThen_ok, run_shape, shape_of hh, e1, Nat.add_zero]
          simp [hlies]
        simp only [convert, Sem.run_bind, run_under ht hs, run_under ht hd, Result.andThen_ok, Conv.unsafePointer, seenAt_run (a := ⟨r.blk, r.off + 0, none⟩) hh, run_size ht hsz, hva]
        simp
    · cases h
  · cases h

end
end Go.Ab
