import Derived.Test.YtjjlhemenokdhaaGreatAbStep
namespace Go.Ab

def Out.recd : Out → Bool
  | .ret _ r => r
  | .pan _ => false

def recMode : FrameMode → FrameMode
  | .panicking ({ v, recovered := false, goexit := false } :: older) => .panicking ({ v, recovered := true } :: older)
  | m => m

/-- The frames below, behind a recover. -/
def afterRec (r : Bool) (cs : List Frame) : List Frame :=
  if r then
    match cs with
    | c :: rest => { c with mode := recMode c.mode } :: rest
    | [] => []
  else cs

def recd (p q : Option Value) : Bool := p.isSome && q.isNone

theorem afterRec_trans {p0 p1 p2 : Option Value} (h1 : p1.isSome = true → p0.isSome = true) (h2 : p2.isSome = true → p1.isSome = true) (cs : List Frame) :
    afterRec (recd p1 p2) (afterRec (recd p0 p1) cs) = afterRec (recd p0 p2) cs := by
  cases p0 <;> cases p1 <;> cases p2 <;> simp_all [recd, afterRec]

/-- What a frame may recover. -/
def PanR (μ : Mu) (pan : Option Value) (kind : CallKind) (cs : List Frame) : Prop :=
  match pan with
  | none => ∀ fr : Frame, fr.kind = kind → tryRecover fr cs = none
  | some v => kind = .deferred ∧ ∃ c rest v', cs = c :: rest ∧ c.mode = .panicking [{ v := v', recovered := false }] ∧ VR μ v v'

theorem PanR.mono {μ ν : Mu} {pan : Option Value} {kind : CallKind} {cs : List Frame} (h : PanR μ pan kind cs) (hm : μ.le ν) : PanR ν pan kind cs := by
  cases pan with
  | none => exact h
  | some v => obtain ⟨h1, c, rest, v', h2, h3, h4⟩ := h; exact ⟨h1, c, rest, v', h2, h3, h4.mono hm⟩

theorem PanR.normal (μ : Mu) (cs : List Frame) : PanR μ none .normal cs := by
  intro fr hk
  unfold tryRecover
  rw [hk]

section
variable (tb : Tab)

/-- Package-level variables stand for themselves. -/
def Glob (μ : Mu) : Prop := ∀ g, g < tb.ng → ∃ r, μ g = some r ∧ r.blk = g ∧ r.off = 0

theorem Glob.mono {μ ν : Mu} (h : Glob tb μ) (hm : μ.le ν) : Glob tb ν := fun g hg => let ⟨r, h1, h2⟩ := h g hg; ⟨r, hm _ _ h1, h2⟩

def LeaveR (μ : Mu) (out : Out) (fr : Frame) (fn : Func) (W : World) : Prop :=
  match out with
  | .ret v _ => fr.mode = .returning ∧ ∃ v', (results fn fr.tmps).run tb.P W = .ok v' W ∧ VR μ v v'
  | .pan v => ∃ v', fr.mode = .panicking [{ v := v', recovered := false }] ∧ VR μ v v'

/-- A run of a function is one of the world's. -/
def FnOK (f : FuncId) (args : List Value) (pan : Option Value) (M : Mem) (out : Out) (M' : Mem) : Prop :=
  ∀ (μ : Mu) (W : World) (args' : Array Value), Glob tb μ → MemR μ M W → All2 (VR μ) args args'.toList →
    (∃ fn c, tb.P.funcs[f]? = some fn ∧ fn.body = some c ∧ fn.name ≠ "runtime.NumGoroutine" ∧
      ∀ kind cs, PanR μ pan kind cs → ∃ μ' W' fr, Ext μ M W μ' M' W' ∧ MemR μ' M' W' ∧
        Steps tb.P (lone (Frame.enter tb.P f args' kind) cs W) (lone fr (afterRec out.recd cs) W') ∧ fr.fn = f ∧ fr.kind = kind ∧ fr.defers = [] ∧ LeaveR tb μ' out fr fn W') ∨
    (pan = none ∧ ∃ v v' μ' W', out = .ret v false ∧ (callFunc f args').run tb.P W = .ok (.value v') W' ∧ VR μ' v v' ∧ MemR μ' M' W' ∧ Ext μ M W μ' M' W')

/-- A round of a range over a function is one of the world's. -/
def RoundOK (l : Nat) (args : List Value) (M : Mem) (out : Out) (M' : Mem) : Prop :=
  ∀ (μ : Mu) (W : World) (args' : Array Value) (r : Ref), Glob tb μ → MemR μ M W → All2 (VR μ) args args'.toList → μ l = some r →
    ∃ v f tmps as bd, out = .ret v false ∧ (Instr.yield r.blk args').run tb.P W = .ok (.round r.blk f tmps as bd) W ∧
      ∀ c cs, ∃ μ' W' v', Ext μ M W μ' M' W' ∧ MemR μ' M' W' ∧ VR μ' v v' ∧
        Steps tb.P (lone (Frame.round r.blk f tmps as bd .normal) (c :: cs) W) (lone (c.finish v') cs W')

structure RunSound (run : Runner) : Prop where
  norec : ∀ f args M out M', run (.fn f args) M = some (out, M') → out.recd = false
  fn : ∀ f args M out M', run (.fn f args) M = some (out, M') → FnOK tb f args none M out M'
  dfn : ∀ f args pan M out M', run (.dfn f args pan) M = some (out, M') → FnOK tb f args pan M out M'
  round : ∀ l args M out M', run (.round l args) M = some (out, M') → RoundOK tb l args M out M'

/-- The model's call and the executor's. -/
def InvR (μ : Mu) : Tgt → Sem Next → Prop
  | .fn f args, s => ∃ args' : Array Value, All2 (VR μ) args args'.toList ∧ ∀ w, s.run tb.P w = (callFunc f args').run tb.P w
  | .dfn .., _ => False
  | .round l args, s => ∃ r args', All2 (VR μ) args (args' : Array Value).toList ∧ μ l = some r ∧ ∀ w, s.run tb.P w = (Instr.yield r.blk args').run tb.P w
end

section
variable {tb : Tab} {μ : Mu} {W : World} {M : Mem}

theorem evalOp_sound (hg : Glob tb μ) {st : St} {a : Act} (ht : TmpsR μ st.nt st.tmps a.tmps) (x : Operand) : VR μ (evalOp tb.ng st x) (a.eval x) := by
  cases x with
  | tmp t => exact ht.at_ t
  | const v =>
    simp only [evalOp, Act.eval]
    cases hc : closed 6 v with
    | true => exact closed_self 6 v hc
    | false => exact .top _ _ _ _
  | global g =>
    simp only [evalOp, Act.eval]
    cases hc : Nat.blt g tb.ng with
    | true =>
      obtain ⟨r, h1, h2, h3⟩ := hg g (lt_of_blt hc)
      have : VR μ (.pointer (some ⟨g, 0, none⟩)) (.pointer (some ⟨r.blk, r.off + 0, none⟩)) := .ptr h1
      rw [h2, h3] at this
      exact this
    | false => exact .top _ _ _ _
  | func f => exact .func (.same (by simp)) rfl rfl (by simp) (by simp)

theorem toArray_all2 {l l' : List Value} (h : All2 (VR μ) l l') : All2 (VR μ) l l'.toArray.toList := by simpa using h

theorem method_to (ht : TabOK tb) {t : TypeId} {i : TypeInfo} {m : Method} {name : String} {f : FuncId} {p : Bool} {d : TypeDesc} (hi : tb.info.get t = some i) (hm : i.methods.find? (·.name == name) = some m)
    (hp : m.path.isEmpty = true) (hf : m.func = some (f, p)) (hu : under tb t = some d) (hd : (p = true ∧ ∃ e, d = .pointer e) ∨ (p = false ∧ ∀ e, d ≠ .pointer e)) (v : Value) (n : Nat) (w : World) :
    (method (n + 1) t v name).run tb.P w = .ok (f, v) w := by
  have h1 := run_info ht hi w
  have h2 := run_under ht hu w
  have hpath : m.path.toList = [] := by simpa using hp
  simp only [method, Sem.run_bind, h1, Result.andThen_ok, hm]
  rw [hpath]
  simp only [follow, Sem.run_pure, Result.andThen_ok, hf, receiverAt, Sem.run_bind, h2]
  rcases hd with ⟨rfl, e, rfl⟩ | ⟨rfl, hd⟩
  · rfl
  · cases d <;> first | rfl | exact absurd rfl (hd _)

/-- Whom a call calls. -/
theorem target_sound (ht : TabOK tb) {ρ ρ' : Operand → Value} (hρ : ∀ x, VR μ (ρ x) (ρ' x)) {callee : Callee} {args : List Value} {args' : Array Value} (ha : All2 (VR μ) args args'.toList) {t : Tgt} (h : target? tb ρ callee args = some t) :
    (∀ f, callee = .value f → InvR tb μ t (do let d ← Deferred.ofValue (ρ' f) args'; invoke d.target d.args)) ∧
      (∀ r n, callee = .invoke r n → InvR tb μ t (callMethod (ρ' r) n args')) := by
  refine ⟨fun f hf => ?_, fun r n hr => ?_⟩
  · subst hf
    have hv := hρ f
    simp only [target?] at h
    split at h
    · rename_i g first cap hx
      rw [hx] at hv
      cases h
      generalize ρ' f = u at hv
      cases hv with
      | @func _ f' _ x' _ y' hfn hs1 hs2 h1 h2 =>
        cases hfn with
        | same _ =>
          refine ⟨x' ++ args' ++ y', ?_, fun w => rfl⟩
          rw [Array.toList_append, Array.toList_append]
          exact ((all2_of hs1 h1).append ha).append (all2_of hs2 h2)
    · rename_i l first cap hx
      rw [hx] at hv
      cases h
      generalize ρ' f = u at hv
      cases hv with
      | @func _ f' _ x' _ y' hfn hs1 hs2 h1 h2 =>
        cases hfn with
        | yield hl =>
          refine ⟨_, x' ++ args', ?_, hl, fun w => rfl⟩
          rw [Array.toList_append]
          exact (all2_of hs1 h1).append ha
        | same hs => exact absurd rfl (hs _)
    · rename_i t0 path g ptr first cap hx
      rw [hx] at hv
      obtain ⟨hp, h2⟩ := bif_some h
      clear h
      have h := h2
      clear h2
      have hpath : path.toList = [] := by simpa using hp
      generalize ρ' f = u at hv
      cases hv with
      | @func _ f' _ x' _ y' hfn hs1 hs2 h1 h2 =>
        cases hfn with
        | same hsame =>
          clear hsame
          have hall : All2 (VR μ) (first.toList ++ args) (x' ++ args').toList := by
            rw [Array.toList_append]; exact (all2_of hs1 h1).append ha
          cases hl : first.toList ++ args with
          | nil => rw [hl] at h; cases h
          | cons y rest =>
            rw [hl] at h hall
            simp only at h
            -- the receiver
            have key : ∃ d, under tb t0 = some d ∧ t = .fn g (y :: rest) ∧ ((ptr = true ∧ ∃ e, d = .pointer e) ∨ (ptr = false ∧ ∀ e, d ≠ .pointer e)) := by
              split at h
              · rename_i e hu; cases h; exact ⟨_, hu, rfl, .inl ⟨rfl, _, rfl⟩⟩
              · cases h
              · rename_i d hne hu; cases h; exact ⟨_, hu, rfl, .inr ⟨rfl, fun e he => hne e he⟩⟩
              · cases h
            obtain ⟨d, hu, rfl, hd⟩ := key
            generalize hz : x' ++ args' = z at hall
            obtain ⟨l⟩ := z
            cases hall with
            | @cons _ q _ rest' hq hrest =>
            refine ⟨⟨q :: rest'⟩, .cons hq hrest, fun w => ?_⟩
            have hrec : (receiverVia t0 q path ptr).run tb.P w = .ok q w := by
              simp only [receiverVia, hpath, follow, Sem.run_bind, Sem.run_pure, Result.andThen_ok, receiverAt, run_under ht hu]
              rcases hd with ⟨rfl, e, rfl⟩ | ⟨rfl, hd⟩
              · rfl
              · cases d <;> first | rfl | exact absurd rfl (hd _)
            simp only [Deferred.ofValue, Sem.run_bind, Sem.run_pure, Result.andThen_ok, invoke, hz]
            simp [hrec]
    · cases h
  · subst hr
    have hv := hρ r
    simp only [target?] at h
    split at h
    · rename_i t0 v hx
      rw [hx] at hv
      cases hi : tb.info.get t0 with
      | none => rw [hi] at h; cases h
      | some i =>
        rw [hi] at h
        simp only at h
        cases hm : i.methods.find? (fun m => m.name == n) with
        | none => rw [hm] at h; cases h
        | some m =>
          rw [hm] at h
          simp only at h
          obtain ⟨hp, h2⟩ := bif_some h
          clear h
          have h := h2
          clear h2
          generalize ρ' r = u at hv
          cases hv with
          | iface hv =>
            rename_i v'
            have key : ∃ d g p, m.func = some (g, p) ∧ under tb t0 = some d ∧ t = .fn g (v :: args) ∧ ((p = true ∧ ∃ e, d = .pointer e) ∨ (p = false ∧ ∀ e, d ≠ .pointer e)) := by
              split at h
              · rename_i g e hf hu; cases h; exact ⟨_, g, _, hf, hu, rfl, .inl ⟨rfl, _, rfl⟩⟩
              · cases h
              · rename_i g d hne hf hu; cases h; exact ⟨_, g, _, hf, hu, rfl, .inr ⟨rfl, fun e he => hne e he⟩⟩
              · cases h
            obtain ⟨d, g, p, hf, hu, rfl, hd⟩ := key
            refine ⟨#[v'] ++ args', by simpa using All2.cons hv ha, fun w => ?_⟩
            have hmt := method_to ht hi hm hp hf hu hd v' (tb.P.types.size + 99) w
            have hmt' : (method (tb.P.types.size + Made.depth) t0 v' n).run tb.P w = .ok (g, v') w := hmt
            simp only [callMethod, Sem.run_bind, run_program, Result.andThen_ok, hmt']
    · cases h

end
end Go.Ab
