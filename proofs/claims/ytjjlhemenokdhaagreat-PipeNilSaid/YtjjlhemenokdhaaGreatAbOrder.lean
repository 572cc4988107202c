import Derived.Test.YtjjlhemenokdhaaGreatAbCongr
namespace Go.Ab

theorem maskOf_spec {l : List Nat} {t : Nat} (h : t ∈ l) : (maskOf l).testBit t = true := by
  induction l with
  | nil => cases h
  | cons x l ih =>
    simp only [maskOf, Nat.testBit_or, Bool.or_eq_true]
    rcases List.mem_cons.1 h with rfl | h
    · exact .inl (Nat.testBit_two_pow_self)
    · exact .inr (ih h)

theorem zipIdx_at {α : Type} {l : List α} {i : Nat} {x : α} (h : l[i]? = some x) : (x, i) ∈ l.zipIdx := by
  rw [List.mem_zipIdx_iff_getElem?]; exact h

theorem zipIdx_of {α : Type} {l : List α} {i : Nat} {x : α} (h : (x, i) ∈ l.zipIdx) : l[i]? = some x := by
  rwa [List.mem_zipIdx_iff_getElem?] at h

theorem tempsOk_spec {ops : Array Oper} {b : Array Nat} (h : tempsOk ops b = true) {i j : Nat} {o p : Oper} {d : Tmp} (hi : ops[i]? = some o) (hj : ops[j]? = some p) (hd : p.dst = some d) (hl : d ∈ looks ops o) (hne : i ≠ j) : ordered b i j = true := by
  unfold tempsOk at h
  simp only at h
  have h1 := List.all_eq_true.1 h (p, j) (zipIdx_at (by simpa using hj))
  simp only [hd] at h1
  have h2 := List.all_eq_true.1 h1 (maskOf (looks ops o), i) (zipIdx_at (by simp [hi]))
  have h3 : Nat.beq i j = false := by
    cases hb : Nat.beq i j with
    | false => rfl
    | true => exact absurd (Nat.eq_of_beq_eq_true hb) hne
  simpa [h3, maskOf_spec hl] using h2

theorem fold_bits {acc : Array Nat} {i : Nat} : ∀ (l : List Edge) (s : Nat), (l.foldl (fun s e => if Region.binds .any e = true then s ||| 2 ^ e.on ||| acc.getD e.on 0 else s) s).testBit i = true →
    s.testBit i = true ∨ ∃ e ∈ l, Region.binds .any e = true ∧ (e.on = i ∨ (acc.getD e.on 0).testBit i = true) := by
  intro l
  induction l with
  | nil => intro s h; exact .inl h
  | cons e l ih =>
    intro s h
    simp only [List.foldl_cons] at h
    rcases ih _ h with h1 | ⟨e', h1, h2, h3⟩
    · by_cases hb : Region.binds .any e = true
      · rw [if_pos hb] at h1
        simp only [Nat.testBit_or, Bool.or_eq_true] at h1
        rcases h1 with (h1 | h1) | h1
        · exact .inl h1
        · refine .inr ⟨e, by simp, hb, .inl ?_⟩
          rw [Nat.testBit_two_pow] at h1
          simpa using h1
        · exact .inr ⟨e, by simp, hb, .inr h1⟩
      · rw [if_neg hb] at h1
        exact .inl h1
    · exact .inr ⟨e', by simp [h1], h2, h3⟩

def beforeStep (acc : Array Nat) (o : Oper) : Array Nat :=
  acc.push (o.after.foldl (fun s e => if Region.binds .any e then s ||| 2 ^ e.on ||| acc.getD e.on 0 else s) 0)

theorem before_go : ∀ (l : List Oper) (acc : Array Nat),
    (∀ k, k < acc.size → (l.foldl beforeStep acc).getD k 0 = acc.getD k 0) ∧
    ∀ j o i, l[j]? = some o → ((l.foldl beforeStep acc).getD (acc.size + j) 0).testBit i = true →
      ∃ e ∈ o.after.toList, Region.binds .any e = true ∧ (e.on = i ∨ ((l.foldl beforeStep acc).getD e.on 0).testBit i = true) := by
  intro l
  induction l with
  | nil => intro acc; exact ⟨fun _ _ => rfl, fun j o i h => by simp at h⟩
  | cons p l ih =>
    intro acc
    simp only [List.foldl_cons]
    obtain ⟨h1, h2⟩ := ih (beforeStep acc p)
    have hsz : (beforeStep acc p).size = acc.size + 1 := by simp [beforeStep]
    have hold : ∀ k, k < acc.size → (l.foldl beforeStep (beforeStep acc p)).getD k 0 = acc.getD k 0 := by
      intro k hk
      rw [h1 k (by omega)]
      simp [beforeStep, Array.getElem?_push, Nat.ne_of_lt hk]
    refine ⟨hold, fun j o i hj hb => ?_⟩
    cases j with
    | zero =>
      simp only [List.getElem?_cons_zero, Option.some.injEq] at hj
      subst hj
      rw [Nat.add_zero, h1 acc.size (by omega)] at hb
      have hb' : (p.after.toList.foldl (fun s e => if Region.binds .any e = true then s ||| 2 ^ e.on ||| acc.getD e.on 0 else s) 0).testBit i = true := by
        simpa [beforeStep, ← Array.foldl_toList] using hb
      rcases fold_bits _ _ hb' with h0 | ⟨e, g1, g2, g3⟩
      · simp at h0
      · refine ⟨e, g1, g2, ?_⟩
        rcases g3 with g3 | g3
        · exact .inl g3
        · refine .inr ?_
          have : e.on < acc.size := by
            rcases Nat.lt_or_ge e.on acc.size with hlt | hge
            · exact hlt
            · rw [show acc.getD e.on 0 = 0 by simp [hge]] at g3
              simp at g3
          rw [hold _ this]; exact g3
    | succ j =>
      simp only [List.getElem?_cons_succ] at hj
      exact h2 j o i hj (by rw [hsz]; rw [show acc.size + 1 + j = acc.size + (j + 1) by omega]; exact hb)

theorem before_spec {ops : Array Oper} {j i : Nat} {o : Oper} (hj : ops[j]? = some o) (h : ((Region.before ops).getD j 0).testBit i = true) :
    ∃ e ∈ o.after.toList, Region.binds .any e = true ∧ (e.on = i ∨ ((Region.before ops).getD e.on 0).testBit i = true) := by
  have he : Region.before ops = ops.toList.foldl beforeStep #[] := by
    unfold Region.before
    rw [← Array.foldl_toList]
    rfl
  rw [he] at h ⊢
  exact (before_go ops.toList #[]).2 j o i (by simpa using hj) (by simpa using h)

/-- The orders end. -/
def Ranked (m : Region.Mode) (ops : Array Oper) : Prop :=
  ∃ rank : Nat → Nat, ∀ i o, ops[i]? = some o → ∀ e ∈ o.after.toList, Region.binds m e = true → e.on < ops.size ∧ rank e.on < rank i

theorem binds_any {m : Region.Mode} {e : Edge} (h : Region.binds .any e = true) : Region.binds m e = true := by
  unfold Region.binds at h ⊢
  cases hg : e.ground <;> rw [hg] at h <;> simp_all

theorem edgesOk_spec {ops : Array Oper} (h : edgesOk ops = true) : Ranked .any ops ∧ Ranked .text ops ∧ (Region.departs ops = true → Ranked .gc ops) := by
  unfold edgesOk at h
  rw [Bool.and_eq_true] at h
  obtain ⟨h1, h2⟩ := h
  have ht : Ranked .text ops := ⟨id, fun i o hi e he hb => by
    have g1 := List.all_eq_true.1 h1 (o, i) (zipIdx_at (by simpa using hi))
    have g2 := List.all_eq_true.1 g1 e he
    have hlt : e.on < i := by
      have : Nat.blt e.on i = true := by simpa [hb] using g2
      exact lt_of_blt this
    have hi' : i < ops.size := by
      rcases Nat.lt_or_ge i ops.size with hlt | hge
      · exact hlt
      · rw [Array.getElem?_eq_none hge] at hi; cases hi
    exact ⟨by omega, hlt⟩⟩
  refine ⟨?_, ht, fun hd => ?_⟩
  · obtain ⟨rank, hr⟩ := ht
    exact ⟨rank, fun i o hi e he hb => hr i o hi e he (binds_any hb)⟩
  · rw [hd] at h2
    simp only [cond_true] at h2
    refine ⟨fun i => (Region.linearise .gc ops 0).idxOf i, fun i o hi e he hb => ?_⟩
    have g1 := List.all_eq_true.1 h2 (o, i) (zipIdx_at (by simpa using hi))
    have g2 := List.all_eq_true.1 g1 e he
    simp only [hb, Bool.not_true, Bool.false_or, Bool.and_eq_true] at g2
    exact ⟨lt_of_blt g2.1, lt_of_blt g2.2⟩

theorem ready_spec {m : Region.Mode} {ops : Array Oper} {listed : Array Bool} {i : Nat} (h : i ∈ Region.ready m ops listed) :
    i < ops.size ∧ listed.getD i true = false ∧ ∃ o, ops[i]? = some o ∧ ∀ e ∈ o.after.toList, Region.binds m e = true → listed.getD e.on false = true := by
  unfold Region.ready at h
  rw [List.mem_filter] at h
  obtain ⟨h1, h2⟩ := h
  rw [Bool.and_eq_true] at h2
  obtain ⟨h2, h3⟩ := h2
  refine ⟨List.mem_range.1 h1, by simpa using h2, ?_⟩
  cases ho : ops[i]? with
  | none => rw [ho] at h3; simp at h3
  | some o =>
    rw [ho] at h3
    refine ⟨o, rfl, fun e he hb => ?_⟩
    simp only [Option.map_some, Option.getD_some] at h3
    rw [← Array.all_toList] at h3
    have := List.all_eq_true.1 h3 e he
    simpa [hb] using this

theorem ready_nil {m : Region.Mode} {ops : Array Oper} {listed : Array Bool} (hr : Ranked m ops) (hs : listed.size = ops.size) (h : Region.ready m ops listed = []) : ∀ i, i < ops.size → listed.getD i false = true := by
  obtain ⟨rank, hr⟩ := hr
  suffices H : ∀ n i, rank i ≤ n → i < ops.size → listed.getD i false = true from fun i hi => H _ i (Nat.le_refl _) hi
  have key : ∀ i, i < ops.size → (∀ j, j < ops.size → rank j < rank i → listed.getD j false = true) → listed.getD i false = true := by
    intro i hi hp
    cases hl : listed.getD i false with
    | true => rfl
    | false =>
      exfalso
      have ho : ops[i]? = some ops[i] := by simp [hi]
      have hmem : i ∈ Region.ready m ops listed := by
        unfold Region.ready
        rw [List.mem_filter, List.mem_range]
        refine ⟨hi, ?_⟩
        have hl' : listed.getD i true = false := by
          have hi' : i < listed.size := by omega
          simpa [hi'] using hl
        rw [hl', ho]
        simp only [Option.map_some, Option.getD_some, Bool.not_false, Bool.true_and]
        rw [← Array.all_toList, List.all_eq_true]
        intro e he
        cases hb : Region.binds m e with
        | false => rfl
        | true =>
          obtain ⟨g1, g2⟩ := hr i _ ho e he hb
          rw [hp _ g1 g2]; rfl
      rw [h] at hmem
      cases hmem
  intro n
  induction n with
  | zero => intro i hri hi; exact key i hi fun j _ hj => by omega
  | succ n ih =>
    intro i hri hi
    exact key i hi fun j hjn hj => ih j (by omega) hjn

theorem schedule_form {ops : Array Oper} (h : edgesOk ops = true) (mixed : Bool) (t : Nat) : ∃ m t', Region.schedule mixed ops t = Region.linearise m ops t' ∧ Ranked m ops := by
  obtain ⟨h1, h2, h3⟩ := edgesOk_spec h
  unfold Region.schedule
  cases hd : Region.departs ops with
  | false => simp only [Bool.not_false, Bool.or_true, if_true]; exact ⟨_, _, rfl, h1⟩
  | true =>
    cases mixed with
    | true => simp only [Bool.true_or, if_true]; exact ⟨_, _, rfl, h1⟩
    | false =>
      simp only [Bool.not_true, Bool.or_false, Bool.false_eq_true, if_false]
      by_cases ht : (t % 2 == 0) = true
      · rw [if_pos ht]; exact ⟨_, _, rfl, h2⟩
      · rw [if_neg ht]; exact ⟨_, _, rfl, h3 hd⟩

end Go.Ab
