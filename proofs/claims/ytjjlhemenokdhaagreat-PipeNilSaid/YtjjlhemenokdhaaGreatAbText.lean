import Derived.Test.YtjjlhemenokdhaaGreatAbOrder
namespace Go.Ab

def stAt (rs : List Rec) (fin : St) (i : Nat) : St := match rs[i]? with | some r => r.st | none => fin
def clsAt (rs : List Rec) (i : Nat) : Nat := match rs[i]? with | some r => r.cls | none => 0
def tv (s : St) (t : Tmp) : Value := match s.tmps.get t with | some v => v | none => undef

section
variable {tb : Tab} {run : Runner} {rd : Option Nat} {ops : Array Oper}

inductive Did (tb : Tab) (run : Runner) (rd : Option Nat) (ops : Array Oper) (o : Oper) (s : St) : Nat → Value → St → Prop
  | op {c : Nat} {v : Value} {nz : Nz} {tmps : T Value} (hw : wanted? ops s.tmps o = some true) (h : aoper tb run rd (evalOp tb.ng s) o s.nz = some (c, .val v, nz)) (hp : putDst s.nt s.tmps o.dst v = some tmps) :
      Did tb run rd ops o s c v { s with tmps, nz }
  | skip {tmps : T Value} (hw : wanted? ops s.tmps o = some false) (hp : putDst s.nt s.tmps o.dst undef = some tmps) : Did tb run rd ops o s 0 undef { s with tmps }

theorem stAt_succ (r : Rec) (rs : List Rec) (fin : St) (i : Nat) : stAt (r :: rs) fin (i + 1) = stAt rs fin i := by
  simp [stAt]

theorem aops_chain : ∀ (l : List Oper) (s : St) (cl cl' : List Rec) (s' : St), aops tb run rd ops l s cl = some (cl', none, s') →
    ∃ rs, cl'.reverse = cl.reverse ++ rs ∧ rs.length = l.length ∧ stAt rs s' 0 = s ∧ ∀ i o, l[i]? = some o → ∃ r, rs[i]? = some r ∧ r.op = o ∧ Did tb run rd ops o r.st r.cls r.val (stAt rs s' (i + 1)) := by
  intro l
  induction l with
  | nil =>
    intro s cl cl' s' h
    cases h
    exact ⟨[], by simp, rfl, rfl, fun i o h => by simp at h⟩
  | cons o l ih =>
    intro s cl cl' s' h
    unfold aops at h
    have key : ∀ (c : Nat) (v : Value) (s1 : St), Did tb run rd ops o s c v s1 → aops tb run rd ops l s1 (⟨c, v, s, o⟩ :: cl) = some (cl', none, s') →
        ∃ rs, cl'.reverse = cl.reverse ++ rs ∧ rs.length = (o :: l).length ∧ stAt rs s' 0 = s ∧ ∀ i o', (o :: l)[i]? = some o' → ∃ r, rs[i]? = some r ∧ r.op = o' ∧ Did tb run rd ops o' r.st r.cls r.val (stAt rs s' (i + 1)) := by
      intro c v s1 hd hr
      obtain ⟨rs, h1, h2, h3, h4⟩ := ih _ _ _ _ hr
      refine ⟨⟨c, v, s, o⟩ :: rs, by rw [h1]; simp, by simp [h2], rfl, fun i o' hi => ?_⟩
      cases i with
      | zero =>
        simp only [List.getElem?_cons_zero, Option.some.injEq] at hi
        subst hi
        refine ⟨_, rfl, rfl, ?_⟩
        rw [stAt_succ, h3]
        exact hd
      | succ i =>
        simp only [List.getElem?_cons_succ] at hi ⊢
        rw [stAt_succ]
        exact h4 i o' hi
    split at h
    · rename_i hw
      split at h
      · rename_i c v nz hop
        split at h
        · rename_i tmps hp
          exact key c v _ (.op hw hop hp) h
        · cases h
      · cases h
      · cases h
    · rename_i hw
      split at h
      · rename_i tmps hp
        exact key 0 undef _ (.skip hw hp) h
      · cases h
    · cases h

theorem withNext_at {fin : St} : ∀ (rs : List Rec) (i : Nat) (r : Rec), rs[i]? = some r → (withNext fin rs)[i]? = some (r, (stAt rs fin (i + 1)).nz.mem)
  | [], i, r, h => by simp at h
  | [p], i, r, h => by
    cases i with
    | zero => simp only [List.getElem?_cons_zero, Option.some.injEq] at h; subst h; rfl
    | succ i => simp at h
  | p :: q :: rest, i, r, h => by
    cases i with
    | zero => simp only [List.getElem?_cons_zero, Option.some.injEq] at h; subst h; rfl
    | succ i =>
      simp only [List.getElem?_cons_succ] at h
      have := withNext_at (fin := fin) (q :: rest) i r (by simpa using h)
      simp only [withNext, List.getElem?_cons_succ]
      rw [this, stAt_succ p (q :: rest)]

theorem pairs_spec {b : Array Nat} {rs : List Rec} {fin : St} (h : pairsOk tb b (withNext fin rs).zipIdx = true) {i j : Nat} {r q : Rec} (hj : rs[j]? = some r) (hc : r.cls = 2) (hi : rs[i]? = some q) :
    pairOk tb b r (stAt rs fin (j + 1)).nz.mem j q i = true := by
  have h1 := List.all_eq_true.1 h ((r, (stAt rs fin (j + 1)).nz.mem), j) (zipIdx_at (withNext_at rs j r hj))
  simp only [hc] at h1
  exact List.all_eq_true.1 h1 ((q, (stAt rs fin (i + 1)).nz.mem), i) (zipIdx_at (withNext_at rs i q hi))

theorem pair_spec {b : Array Nat} {r q : Rec} {m : Mem} {i j : Nat} (h : pairOk tb b r m j q i = true) (hne : i ≠ j) (h0 : q.cls ≠ 0) (h3 : ¬ (q.cls = 3 ∧ i < j)) :
    ordered b i j = true ∨ (q.cls = 1 ∧ sees tb q r.st.nz.mem = true ∧ sees tb q m = true) := by
  unfold pairOk at h
  have e1 : Nat.beq q.cls 0 = false := by
    cases hb : Nat.beq q.cls 0 with
    | false => rfl
    | true => exact absurd (Nat.eq_of_beq_eq_true hb) h0
  have e2 : Nat.beq i j = false := by
    cases hb : Nat.beq i j with
    | false => rfl
    | true => exact absurd (Nat.eq_of_beq_eq_true hb) hne
  have e3 : (Nat.beq q.cls 3 && Nat.blt i j) = false := by
    cases hb : (Nat.beq q.cls 3 && Nat.blt i j) with
    | false => rfl
    | true =>
      rw [Bool.and_eq_true] at hb
      exact absurd ⟨Nat.eq_of_beq_eq_true hb.1, lt_of_blt hb.2⟩ h3
  rw [e1, e2, e3] at h
  simp only [Bool.false_or, cond_false] at h
  cases ho : ordered b i j with
  | true => exact .inl rfl
  | false =>
    rw [ho] at h
    simp only [cond_false, Bool.and_eq_true] at h
    exact .inr ⟨Nat.eq_of_beq_eq_true h.1.1, h.1.2, h.2⟩

theorem veq_sound : ∀ (n : Nat) (a b : Value), veq n a b = true → a = b := by
  intro n
  induction n with
  | zero => intro a b h; simp [veq] at h
  | succ n ih =>
    have hs : ∀ (l l' : List Value), veq.veqs n l l' = true → l = l' := by
      intro l
      induction l with
      | nil =>
        intro l' h
        cases l' with
        | nil => rfl
        | cons _ _ => simp [veq.veqs] at h
      | cons x l ihl =>
        intro l' h
        cases l' with
        | nil => simp [veq.veqs] at h
        | cons y l' =>
          simp only [veq.veqs, Bool.and_eq_true] at h
          rw [ih _ _ h.1, ihl _ h.2]
    intro a b h
    cases a <;> cases b <;> first
      | (simp [veq] at h; done)
      | rfl
      | (simp only [veq, Bool.and_eq_true, beq_iff_eq] at h; simp_all; done)
      | skip
    case string.string a b =>
      simp only [veq] at h
      rw [(bytes_eq a b).1 h]
    case iface.iface t v u w =>
      simp only [veq, Bool.and_eq_true] at h
      rw [Nat.eq_of_beq_eq_true h.1, ih _ _ h.2]
    case func.func f x y g z w =>
      simp only [veq, Bool.and_eq_true, beq_iff_eq] at h
      rw [h.1.1, Array.ext' (hs _ _ h.1.2), Array.ext' (hs _ _ h.2)]
    case agg.agg x y =>
      simp only [veq] at h
      rw [Array.ext' (hs _ _ h)]
    case tuple.tuple x y =>
      simp only [veq] at h
      rw [Array.ext' (hs _ _ h)]

theorem sees_spec {q : Rec} {m : Mem} (h : sees tb q m = true) : aread tb (evalOp tb.ng q.st) q.op m = some q.val := by
  unfold sees at h
  split at h
  · rename_i v hv
    rw [hv, veq_sound _ _ _ h]
  · cases h

theorem aoper_cases {ρ : Operand → Value} {o : Oper} {z nz : Nz} {c : Nat} {out : OOut} (h : aoper tb run rd ρ o z = some (c, out, nz)) :
    (c = 0 ∧ nz = z ∧ ∃ v, out = .val v ∧ apure tb ρ o = some v) ∨ (c = 1 ∧ nz = z ∧ ∃ v, out = .val v ∧ aread tb ρ o z.mem = some v) ∨
      (c = 3 ∧ ∃ x f, out = .val (f z.mem.next) ∧ nz = { z with mem := (newBlk z.mem x).2 } ∧ makes? tb ρ o = some (x, f)) ∨ c = 2 := by
  rw [aoper_eq] at h
  unfold aoperS at h
  cases h1 : apure tb ρ o with
  | some v => rw [h1] at h; cases h; exact .inl ⟨rfl, rfl, v, rfl, rfl⟩
  | none =>
    rw [h1] at h
    simp only at h
    cases h2 : aread tb ρ o z.mem with
    | some v => rw [h2] at h; cases h; exact .inr (.inl ⟨rfl, rfl, v, rfl, rfl⟩)
    | none =>
      rw [h2] at h
      simp only at h
      cases h3 : makes? tb ρ o with
      | some q =>
        obtain ⟨x, f⟩ := q
        rw [h3] at h
        cases h
        exact .inr (.inr (.inl ⟨rfl, x, f, rfl, rfl, rfl⟩))
      | none =>
        rw [h3] at h
        simp only at h
        cases h4 : amem tb ρ o z.mem with
        | some q => obtain ⟨v, m⟩ := q; rw [h4] at h; cases h; exact .inr (.inr (.inr rfl))
        | none =>
          rw [h4] at h
          simp only at h
          cases h5 : actl tb run rd ρ o z with
          | some q => obtain ⟨v, m⟩ := q; rw [h5] at h; cases h; exact .inr (.inr (.inr rfl))
          | none => rw [h5] at h; cases h

theorem putDst_tv {s : St} {tmps : T Value} {dst : Option Tmp} {v : Value} {nz : Nz} (h : putDst s.nt s.tmps dst v = some tmps) (t : Tmp) : tv { s with tmps, nz } t = if dst = some t then v else tv s t := by
  unfold putDst at h
  cases dst with
  | none => cases h; simp [tv]
  | some d =>
    obtain ⟨hlt, h2⟩ := bif_some h
    cases h2
    simp only [tv, T.get_set, Option.some.injEq]
    by_cases hd : d = t
    · subst hd; simp
    · rw [if_neg (Ne.symm hd), if_neg hd]

theorem Did.tv {o : Oper} {s s1 : St} {c : Nat} {v : Value} (h : Did tb run rd ops o s c v s1) (t : Tmp) : tv s1 t = if o.dst = some t then v else tv s t := by
  cases h with
  | op _ _ hp => exact putDst_tv hp t
  | skip _ hp => exact putDst_tv (nz := s.nz) hp t

theorem Did.nt {o : Oper} {s s1 : St} {c : Nat} {v : Value} (h : Did tb run rd ops o s c v s1) : s1.nt = s.nt := by
  cases h <;> rfl

theorem Did.dst_lt {o : Oper} {s s1 : St} {c : Nat} {v : Value} (h : Did tb run rd ops o s c v s1) {t : Tmp} (ht : o.dst = some t) : t < s.nt := by
  cases h with
  | op _ _ hp => unfold putDst at hp; rw [ht] at hp; exact lt_of_blt (bif_some hp).1
  | skip _ hp => unfold putDst at hp; rw [ht] at hp; exact lt_of_blt (bif_some hp).1

/-- What an operation leaves: by its class. -/
theorem Did.nz {o : Oper} {s s1 : St} {c : Nat} {v : Value} (h : Did tb run rd ops o s c v s1) (hc : c ≠ 2) :
    s1.nz = s.nz ∨ (c = 3 ∧ ∃ x f, makes? tb (evalOp tb.ng s) o = some (x, f) ∧ v = f s.nz.mem.next ∧ s1.nz = { s.nz with mem := (newBlk s.nz.mem x).2 }) := by
  cases h with
  | skip => exact .inl rfl
  | op _ h _ =>
    rcases aoper_cases h with ⟨rfl, h1, _⟩ | ⟨rfl, h1, _⟩ | ⟨rfl, x, f, h1, h2, h3⟩ | h1
    · exact .inl h1
    · exact .inl h1
    · cases h1; exact .inr ⟨rfl, x, f, h3, rfl, h2⟩
    · exact absurd h1 hc

end
end Go.Ab
