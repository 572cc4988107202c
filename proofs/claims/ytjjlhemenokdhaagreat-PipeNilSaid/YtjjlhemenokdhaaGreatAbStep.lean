import Derived.Test.YtjjlhemenokdhaaGreatAbNoisy3
import Derived.Control
import Derived.Calls
namespace Go.Ab

/-- A frame at work: b tells its function, its kind, whether it is a round. -/
def mk (b : Frame) (a : Act) (todo : List Item) : Frame := { b with tmps := a.tmps, todo, defers := a.defers, mode := .run }

theorem mk_eval (b : Frame) (a : Act) (todo : List Item) : (mk b a todo).eval = a.eval := by
  funext x; cases x <;> rfl

section
variable {P : Program} {b : Frame} {a : Act} {k : List Item} {cs : List Frame} {w w' : World}

theorem st_skip : step P (lone (mk b a (.code .skip :: k)) cs w) = .next (lone (mk b a k) cs w) := step_lone_go (by simp [stepG, stepG.exec, mk])
theorem st_label {l : Nat} : step P (lone (mk b a (.code (.label l) :: k)) cs w) = .next (lone (mk b a k) cs w) := step_lone_go (by simp [stepG, stepG.exec, mk])
theorem st_inBlock {id : Nat} : step P (lone (mk b a (.inBlock id :: k)) cs w) = .next (lone (mk b a k) cs w) := step_lone_go (by simp [stepG, stepG.exec, mk])
theorem st_inScope {c : Code} : step P (lone (mk b a (.inScope c :: k)) cs w) = .next (lone (mk b a k) cs w) := step_lone_go (by simp [stepG, stepG.exec, mk])
theorem st_seq {x y : Code} : step P (lone (mk b a (.code (.seq x y) :: k)) cs w) = .next (lone (mk b a (.code x :: .code y :: k)) cs w) := step_lone_go (by simp [stepG, stepG.exec, mk])
theorem st_cond {c : Operand} {x y : Code} {t : Bool} (h : a.eval c = .bool t) : step P (lone (mk b a (.code (.cond c x y) :: k)) cs w) = .next (lone (mk b a (.code (if t then x else y) :: k)) cs w) :=
  step_lone_go (by
    have he := congrFun (mk_eval b a (.code (.cond c x y) :: k)) c
    rw [h] at he
    simp only [mk] at he
    simp [stepG, stepG.exec, mk, he])
theorem st_block {id : Nat} {c : Code} : step P (lone (mk b a (.code (.block id c) :: k)) cs w) = .next (lone (mk b a (.code c :: .inBlock id :: k)) cs w) := step_lone_go (by simp [stepG, stepG.exec, mk])
theorem st_loop {c : Code} : step P (lone (mk b a (.code (.loop c) :: k)) cs w) = .next (lone (mk b a (.code c :: .inLoop c :: k)) cs w) := step_lone_go (by simp [stepG, stepG.exec, mk])
theorem st_inLoop {c : Code} : step P (lone (mk b a (.inLoop c :: k)) cs w) = .next (lone (mk b a (.code c :: .inLoop c :: k)) cs w) := step_lone_go (by simp [stepG, stepG.exec, mk])
theorem st_scope {c : Code} : step P (lone (mk b a (.code (.scope c) :: k)) cs w) = .next (lone (mk b a (.code c :: .inScope c :: k)) cs w) := step_lone_go (by simp [stepG, stepG.exec, mk])
theorem st_exit {id : Nat} {k' : List Item} (h : exitTo id k = some k') : step P (lone (mk b a (.code (.exit id) :: k)) cs w) = .next (lone (mk b a k') cs w) :=
  step_lone_go (by simp [stepG, stepG.exec, mk, h])
/-- The end, or a return, of a frame that is no round. -/
theorem st_end (hr : b.roundOf = none) : step P (lone (mk b a []) cs w) = .next (lone { mk b a [] with mode := .returning } cs w) := step_lone_go (by simp [stepG, stepG.exec, mk, hr])
theorem st_ret (hr : b.roundOf = none) : step P (lone (mk b a (.code .ret :: k)) cs w) = .next (lone { mk b a (.code .ret :: k) with mode := .returning } cs w) := step_lone_go (by simp [stepG, stepG.exec, mk, hr])

theorem st_region {id : Nat} {ops : Array Oper} : step P (lone (mk b a (.code (.region id ops false) :: k)) cs w) = .next (lone (mk b a (.inRegion ops (List.range ops.size) :: k)) cs w) :=
  step_lone_go (by simp [stepG, stepG.exec, mk])
theorem st_region_draw {id : Nat} {ops : Array Oper} : step P (lone (mk b a (.code (.region id ops true) :: k)) cs w) =
    .next (lone (mk b a (.inRegion ops (Region.schedule (P.follows .mixedOrders) ops (w.tape w.drawn (.order b.fn id))) :: k)) cs { w with drawn := w.drawn + 1 }) :=
  step_lone_go (by simp [stepG, stepG.exec, mk, choose, Sem.run, Question.forced, Question.cut])
theorem st_region_end {ops : Array Oper} : step P (lone (mk b a (.inRegion ops [] :: k)) cs w) = .next (lone (mk b a k) cs w) := step_lone_go (by simp [stepG, stepG.exec, mk])

theorem mk_finish (ops : Array Oper) (i : Nat) (rest : List Nat) (v : Value) :
    (mk b a (.inRegion ops (i :: rest) :: k)).finish v = mk b (a.put ((ops[i]?).bind (·.dst)) v) (.inRegion ops rest :: k) := by
  cases h : (ops[i]?).bind (·.dst) <;> simp [Frame.finish, mk, Act.put, h]

theorem st_op_skip {ops : Array Oper} {i : Nat} {rest : List Nat} {o : Oper} (ho : ops[i]? = some o) (h : Region.wanted o (yielded ops a.tmps) = false) :
    step P (lone (mk b a (.inRegion ops (i :: rest) :: k)) cs w) = .next (lone (mk b (a.put o.dst undef) (.inRegion ops rest :: k)) cs w) := by
  have hf := mk_finish (b := b) (a := a) (k := k) ops i rest undef
  rw [ho] at hf
  simp only [Option.bind_some] at hf
  rw [← hf]
  exact step_lone_go (by
    simp only [mk] at *
    simp [stepG, stepG.exec, ho, h])

/-- An operation is carried out: by its meaning. -/
theorem stepG_op {ops : Array Oper} {i : Nat} {rest : List Nat} {o : Oper} (ho : ops[i]? = some o) (hw : Region.wanted o (yielded ops a.tmps) = true) (hd : b.roundOf = none ∨ ∀ c, o.op ≠ .defer c) :
    stepG P true { frame := mk b a (.inRegion ops (i :: rest) :: k), callers := cs, status := .running, dying := none } w =
      stepG.apply P true (mk b a (.inRegion ops (i :: rest) :: k)) cs none (execOp a.eval o) w := by
  have he := mk_eval b a (.inRegion ops (i :: rest) :: k)
  simp only [mk] at he ⊢
  rcases hd with hd | hd
  · rw [hd] at he ⊢
    simp [stepG, stepG.exec, stepG.oper, Frame.oper?, ho, hw, he]
  · cases hr : b.roundOf with
    | none =>
      rw [hr] at he
      simp [stepG, stepG.exec, stepG.oper, Frame.oper?, ho, hw, he]
    | some l =>
      rw [hr] at he
      simp only [stepG, stepG.exec, stepG.oper, Frame.oper?, ho, he]
      simp only [Option.map_some, Option.getD_some, hw, if_true]
      obtain ⟨dst, op, ty, pos, after, guard⟩ := o
      cases op <;> first | rfl | exact absurd rfl (hd _)

variable {ops : Array Oper} {i : Nat} {rest : List Nat} {o : Oper}

theorem st_value (ho : ops[i]? = some o) (hw : Region.wanted o (yielded ops a.tmps) = true) (hd : b.roundOf = none ∨ ∀ c, o.op ≠ .defer c) {v : Value} (hr : (execOp a.eval o).run P w = .ok (.value v) w') :
    step P (lone (mk b a (.inRegion ops (i :: rest) :: k)) cs w) = .next (lone (mk b (a.put o.dst v) (.inRegion ops rest :: k)) cs w') := by
  have hf := mk_finish (b := b) (a := a) (k := k) ops i rest v
  rw [ho] at hf
  simp only [Option.bind_some] at hf
  rw [← hf]
  exact step_lone_go (by rw [stepG_op ho hw hd]; simp [stepG.apply, hr])

theorem st_nothing (ho : ops[i]? = some o) (hw : Region.wanted o (yielded ops a.tmps) = true) (hd : b.roundOf = none ∨ ∀ c, o.op ≠ .defer c) (hr : (execOp a.eval o).run P w = .ok .skip w') :
    step P (lone (mk b a (.inRegion ops (i :: rest) :: k)) cs w) = .next (lone (mk b (a.put o.dst undef) (.inRegion ops rest :: k)) cs w') := by
  have hf := mk_finish (b := b) (a := a) (k := k) ops i rest undef
  rw [ho] at hf
  simp only [Option.bind_some] at hf
  rw [← hf]
  exact step_lone_go (by rw [stepG_op ho hw hd]; simp [stepG.apply, hr])

theorem st_defer (ho : ops[i]? = some o) (hw : Region.wanted o (yielded ops a.tmps) = true) (hd : b.roundOf = none ∨ ∀ c, o.op ≠ .defer c) {d : Deferred} (hr : (execOp a.eval o).run P w = .ok (.defer d) w') :
    step P (lone (mk b a (.inRegion ops (i :: rest) :: k)) cs w) = .next (lone (mk b ({ a with defers := d :: a.defers }.put o.dst undef) (.inRegion ops rest :: k)) cs w') := by
  have hf := mk_finish (b := b) (a := { a with defers := d :: a.defers }) (k := k) ops i rest undef
  rw [ho] at hf
  simp only [Option.bind_some] at hf
  rw [← hf]
  exact step_lone_go (by rw [stepG_op ho hw hd]; simp [stepG.apply, hr, mk])

theorem st_panic (ho : ops[i]? = some o) (hw : Region.wanted o (yielded ops a.tmps) = true) (hd : b.roundOf = none ∨ ∀ c, o.op ≠ .defer c) {v : Value} (hr : (execOp a.eval o).run P w = .halt (.panic v) w') :
    step P (lone (mk b a (.inRegion ops (i :: rest) :: k)) cs w) = .next (lone { mk b a (.inRegion ops (i :: rest) :: k) with mode := .panicking [{ v, recovered := false }] } cs w') :=
  step_lone_go (by rw [stepG_op ho hw hd]; simp [stepG.apply, hr, mk, Frame.raise])

theorem st_enter (ho : ops[i]? = some o) (hw : Region.wanted o (yielded ops a.tmps) = true) (hd : b.roundOf = none ∨ ∀ c, o.op ≠ .defer c) {f : FuncId} {args : Array Value} (hr : (execOp a.eval o).run P w = .ok (.enter f args) w') :
    step P (lone (mk b a (.inRegion ops (i :: rest) :: k)) cs w) = .next (lone (Frame.enter P f args .normal) (mk b a (.inRegion ops (i :: rest) :: k) :: cs) w') :=
  step_lone_go (by rw [stepG_op ho hw hd]; simp [stepG.apply, hr, mk])

theorem st_round (ho : ops[i]? = some o) (hw : Region.wanted o (yielded ops a.tmps) = true) (hd : b.roundOf = none ∨ ∀ c, o.op ≠ .defer c) {l : Nat} {f : FuncId} {tmps : Array Value} {as bd : Code} (hr : (execOp a.eval o).run P w = .ok (.round l f tmps as bd) w') :
    step P (lone (mk b a (.inRegion ops (i :: rest) :: k)) cs w) = .next (lone (Frame.round l f tmps as bd .normal) (mk b a (.inRegion ops (i :: rest) :: k) :: cs) w') :=
  step_lone_go (by rw [stepG_op ho hw hd]; simp [stepG.apply, hr, mk])

/-- recover, in a frame that is no round. -/
theorem st_recover (ho : ops[i]? = some o) (hw : Region.wanted o (yielded ops a.tmps) = true) (hn : b.roundOf = none) (hr : (execOp a.eval o).run P w = .ok .recover w')
    {r : Option (Value × List Frame)} (ht : tryRecover (mk b a (.inRegion ops (i :: rest) :: k)) cs = r) :
    step P (lone (mk b a (.inRegion ops (i :: rest) :: k)) cs w) =
      (match r with
        | some (v, cs') => .next (lone (mk b (a.put o.dst v) (.inRegion ops rest :: k)) cs' w')
        | none => .next (lone (mk b (a.put o.dst .nilIface) (.inRegion ops rest :: k)) cs w')) := by
  have hf : ∀ v, (mk b a (.inRegion ops (i :: rest) :: k)).finish v = mk b (a.put o.dst v) (.inRegion ops rest :: k) := by
    intro v
    have hf := mk_finish (b := b) (a := a) (k := k) ops i rest v
    rw [ho] at hf
    exact hf
  have hro : (mk b a (.inRegion ops (i :: rest) :: k)).roundOf = none := hn
  cases r with
  | none =>
    simp only
    rw [← hf]
    exact step_lone_go (by rw [stepG_op ho hw (.inl hn)]; simp only [stepG.apply, Sem.runT_eq, hr, if_true, hro, ht, GStep.bare_after, GStep.bare_go])
  | some q =>
    obtain ⟨v, cs'⟩ := q
    simp only
    rw [← hf]
    exact step_lone_go (by rw [stepG_op ho hw (.inl hn)]; simp only [stepG.apply, Sem.runT_eq, hr, if_true, hro, ht, GStep.bare_after, GStep.bare_go])

end
end Go.Ab
