import Derived.Test.YtjjlhemenokdhaaGreatAbRound
import Derived.Below
namespace Go.Ab
open Go.RowKit (Below)

/-- The tables of a program. -/
def tabOf (P : Program) (ng : Nat) : Tab := { P, info := T.nil.fill 0 P.types.toList, fn := T.nil.fill 0 P.funcs.toList, ng }

def zerosOk (P : Program) : Bool := P.types.toList.all fun i => match i.zero with
  | some z => closed 20 z
  | none => true
def namesOk (P : Program) : Bool := P.funcs.toList.all fun f => !(f.name == "runtime.NumGoroutine")

theorem fill_get {α : Type} (l : List α) (i : Nat) : (T.nil.fill 0 l).get i = l[i]? := by
  rw [T.get_fill]
  simp only [Nat.zero_le, true_and, Nat.zero_add, Nat.sub_zero, T.get_nil]
  by_cases hi : i < l.length
  · rw [if_pos hi]
  · rw [if_neg hi]; simp [Nat.le_of_not_lt hi]

/-- The tables, and what functions tell that need not be run. -/
def tabWith (P : Program) (ng : Nat) (sm : FuncId → List Value → Mem → Option (Value × Mem)) : Tab := { tabOf P ng with sm }

theorem tabWith_ok {P : Program} {ng : Nat} {sm : FuncId → List Value → Mem → Option (Value × Mem)} (h1 : zerosOk P = true) (h2 : namesOk P = true) : TabOK (tabWith P ng sm) where
  info := fun t i h => by
    have h : (T.nil.fill 0 P.types.toList).get t = some i := h
    rw [fill_get] at h
    have h : P.types[t]? = some i := by simpa using h
    have hlt : t < P.types.size := by
      rcases Nat.lt_or_ge t P.types.size with hlt | hge
      · exact hlt
      · rw [Array.getElem?_eq_none hge] at h; cases h
    change Tables.info? P.toTables t = some i
    unfold Tables.info?
    rw [if_pos hlt]
    exact h
  zero := fun t i z h hz => by
    have h : (T.nil.fill 0 P.types.toList).get t = some i := h
    rw [fill_get] at h
    have := List.all_eq_true.1 h1 i (List.mem_of_getElem? h)
    rw [hz] at this
    exact this
  fn := fun f x h => by
    have h : (T.nil.fill 0 P.funcs.toList).get f = some x := h
    rw [fill_get] at h
    refine ⟨by simpa [tabWith, tabOf] using h, ?_⟩
    have := List.all_eq_true.1 h2 x (List.mem_of_getElem? h)
    simpa using this

theorem tabOf_ok {P : Program} {ng : Nat} (h1 : zerosOk P = true) (h2 : namesOk P = true) : TabOK (tabOf P ng) :=
  let h := tabWith_ok (P := P) (ng := ng) (sm := fun _ _ _ => none) h1 h2
  ⟨h.info, h.zero, h.fn⟩

theorem tabOf_sums {P : Program} {ng : Nat} : SumsOK (tabOf P ng) := fun _ _ _ _ _ h => by cases h

def start : Mem := { blk := .nil, next := 1000000 }

def runsAt (tb : Tab) (M : Mem) (L n : Nat) (f : FuncId) (args : List Value) : Option Value :=
  match runFn tb L n (.fn f args) M with
  | some (.ret v _, _) => some v
  | _ => none

def saysTrueAt (tb : Tab) (M : Mem) (L n : Nat) (f : FuncId) (args : List Value) : Bool :=
  match runsAt tb M L n f args with
  | some (.bool true) => true
  | _ => false

def saysTrue (tb : Tab) (L n : Nat) (f : FuncId) (args : List Value) : Bool := saysTrueAt tb start L n f args

theorem start_rel (W : World) : MemR (fun _ => none) start W :=
  { dom := fun _ _ h => by cases h
    blk := fun _ _ _ _ h => by cases h
    inj := fun _ _ _ _ _ _ _ _ _ _ _ h _ => by cases h
    past := fun _ _ => T.get_nil _ }

/-- WHAT THE EXECUTOR SAYS OF A RUN HOLDS OF EVERY RUN THAT BEGINS SO. -/
theorem calls_at {tb : Tab} (ht : TabOK tb) (hs : SumsOK tb) {M : Mem} {L n : Nat} {f : FuncId} {args : List Value} (h : saysTrueAt tb M L n f args = true) {fn : Func} {c : Code} (hf : tb.P.funcs[f]? = some fn) (hb : fn.body = some c)
    {μ : Mu} (args' : Array Value) (ha : All2 (VR μ) args args'.toList) (W : World) (hg : Glob tb μ) (hM : MemR μ M W) (hro : ∀ c, ¬ Own μ M c) :
    Calls tb.P f args' W fun e W' => e = .returned (.bool true) ∧ Below W.heap.size W W' := by
  unfold saysTrueAt runsAt at h
  split at h
  · rename_i hv
    split at hv
    · rename_i v r M' hr
      cases hv
      rcases (runFn_sound ht hs L n).fn f args M _ M' hr μ W args' hg hM ha with ⟨fn', c', hf', hb', hn, hgo⟩ | ⟨_, v, v', μ', W', _, h1, _⟩
      · intro cs
        obtain ⟨μ', W', fr, e1, e2, e3, e4, e5, e6, e7, v', e8, e9⟩ := hgo .normal cs (PanR.normal _ _)
        have hv' : v' = .bool true := by cases e9; rfl
        subst hv'
        have hrec := (runFn_sound ht hs L n).norec _ _ _ _ _ hr
        rw [hrec] at e3
        refine ⟨_, W', fr, ⟨rfl, ⟨e1.same.os, e1.same.tape, e1.same.output, e1.hp, fun k hk => e1.keep k hk (hro k)⟩⟩, ?_, e4, e7, e6, e5, fn', by rw [e4]; exact hf', e8⟩
        exact e3
      · have : fn.name ≠ "runtime.NumGoroutine" := by
          intro hq
          simp [callFunc, hf, hq] at h1
        rw [callFunc_enter hf hb this] at h1
        cases h1
    · cases hv
  · cases h

/-- WHAT THE EXECUTOR SAYS OF A CLOSED RUN HOLDS OF EVERY RUN. -/
theorem calls_of {tb : Tab} (ht : TabOK tb) (hs : SumsOK tb) (hng : tb.ng = 0) {L n : Nat} {f : FuncId} {args : List Value} (h : saysTrue tb L n f args = true) {fn : Func} {c : Code} (hf : tb.P.funcs[f]? = some fn) (hb : fn.body = some c)
    (args' : Array Value) (ha : All2 (VR fun _ => none) args args'.toList) (W : World) :
    Calls tb.P f args' W fun e W' => e = .returned (.bool true) ∧ Below W.heap.size W W' :=
  calls_at ht hs h hf hb args' ha W (fun g hg => by rw [hng] at hg; omega) (start_rel W) (fun c ⟨B, r, x, hB, _⟩ => by cases hB)

end Go.Ab
