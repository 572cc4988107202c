import GoSem.Step
namespace Go.Ab

/-- A trie: numbers to things. -/
inductive T (α : Type) where
  | nil : T α
  | node (v : Option α) (l r : T α) : T α

namespace T
def get {α : Type} : T α → Nat → Option α
  | .nil, _ => none
  | .node v l r, n =>
    bif Nat.beq n 0 then v
    else bif Nat.beq (Nat.mod n 2) 1 then get l (Nat.div n 2)
    else get r (Nat.pred (Nat.div n 2))

def val {α : Type} : T α → Option α
  | .nil => none
  | .node v _ _ => v
def left {α : Type} : T α → T α
  | .nil => .nil
  | .node _ l _ => l
def right {α : Type} : T α → T α
  | .nil => .nil
  | .node _ _ r => r

def put {α : Type} (x : α) : Nat → T α → Nat → T α
  | 0, t, _ => t
  | d + 1, t, n =>
    bif Nat.beq n 0 then .node (some x) t.left t.right
    else bif Nat.beq (Nat.mod n 2) 1 then .node t.val (put x d t.left (Nat.div n 2)) t.right
    else .node t.val t.left (put x d t.right (Nat.pred (Nat.div n 2)))

def set {α : Type} (t : T α) (n : Nat) (x : α) : T α := put x (n + 1) t n

/-- A list's members from a place on. -/
def fill {α : Type} : T α → Nat → List α → T α
  | t, _, [] => t
  | t, i, x :: xs => fill (t.set i x) (i + 1) xs
end T

inductive Blk where
  /-- n cells; a cell that is not in c is the zero's. opn: the concrete block may go on behind them; ro: nothing writes there. -/
  | cells (c : T Value) (dflt : Array Value) (n : Nat) (opn ro : Bool) (elem : TypeId) (es : Nat)
  | obj (o : Obj)
  | loop (state : LoopState) (pending : Option Code) (fn : FuncId) (nt : Nat) (tmps : T Value) (params : Array Tmp) (assign body : Code) (defers : Nat)
  | dead

structure Mem where
  blk : T Blk
  next : Nat

/-- What the program's tables tell, in tries. -/
structure Tab where
  P : Program
  info : T TypeInfo
  fn : T Func
  ng : Nat
  /-- What functions tell that need not be run. -/
  sm : FuncId → List Value → Mem → Option (Value × Mem) := fun _ _ _ => none

/-- What operations may change beside the temporaries: the deferred calls, what may be recovered, memory. -/
structure Nz where
  defs : List Deferred
  pan : Option Value
  mem : Mem

structure St where
  nt : Nat
  tmps : T Value
  nz : Nz

inductive Ex where
  | normal
  | exit (id : Nat)
  | ret
  | pan (v : Value)

/-- Whom to run: a function; one that was deferred, with what its caller panics with; a round of a range over a function. -/
inductive Tgt where
  | fn (f : FuncId) (args : List Value)
  | dfn (f : FuncId) (args : List Value) (pan : Option Value)
  | round (l : Nat) (args : List Value)

/-- What comes of a run: a value, and whether the caller's panic was recovered; a panic. -/
inductive Out where
  | ret (v : Value) (recd : Bool)
  | pan (v : Value)

/-- What comes of an operation. -/
inductive OOut where
  | val (v : Value)
  | pan (v : Value)

/-- The capacity of a slice that may go on. -/
def capOpen : Nat := 2 ^ 70

/-- A value without addresses. -/
def closed : Nat → Value → Bool
  | 0, _ => false
  | n + 1, v => match v with
    | .bool _ | .int _ _ | .float _ _ | .string _ | .pointer none | .map none | .chan none | .nilFunc | .nilIface => true
    | .slice none l c => Nat.blt c capOpen && Nat.ble l c
    | .iface _ v => closed n v
    | .agg cs => cs.toList.all (closed n)
    | .tuple cs => cs.toList.all (closed n)
    | .func (.yield _) _ _ => false
    | .func _ f c => f.toList.all (closed n) && c.toList.all (closed n)
    | _ => false

/-- What is not known. -/
def top : Value := .complex .f32 0 0

def isTop : Value → Bool
  | .complex _ _ _ => true
  | _ => false

def evalOp (ng : Nat) (st : St) : Operand → Value
  | .tmp t => match st.tmps.get t with | some v => v | none => undef
  | .const v => bif closed 6 v then v else top
  | .global g => bif Nat.blt g ng then .pointer (some ⟨g, 0, none⟩) else top
  | .func f => .func (.func f) #[] #[]

def pureRun {α : Type} (P : Program) : Sem α → Option α
  | .pure a => some a
  | .program k => pureRun P (k P)
  | .mark _ k => pureRun P k
  | _ => none

section
variable (tb : Tab)

def under (t : TypeId) : Option TypeDesc :=
  match tb.info.get t with
  | some i => match i.desc with
    | .named _ u => (tb.info.get u).map (·.desc)
    | d => some d
  | none => none

def sizeOf? (t : TypeId) : Option Nat := (tb.info.get t).map (·.size)

def isAgg? (t : TypeId) : Option Bool :=
  match under tb t with
  | some (.struct _) => some true
  | some (.array _ _) => some true
  | some _ => some false
  | none => none

def part? (t : TypeId) (cs : Array Value) (off : Nat) : Option Value :=
  match isAgg? tb t with
  | some true => match sizeOf? tb t with
    | some n => some (.agg (cs.extract off (off + n)))
    | none => none
  | some false => cs[off]?
  | none => none

/-- Values that stand in one cell each. -/
def oneCell : Value → Bool
  | .agg _ | .tuple _ | .complex .. => false
  | _ => true

def field? (t : TypeId) (f : Nat) : Option Field :=
  match under tb t with
  | some (.struct fs) => fs[f]?
  | _ => none

def zero? (t : TypeId) : Option Value :=
  match tb.info.get t with
  | some i => i.zero
  | none => none

def sliceBound? (v : Value) (y : Nat) : Option Nat :=
  match v with
  | .int _ i => bif decide (0 ≤ i) && decide (i ≤ y) then some i.toNat else none
  | _ => none

def limit (len cap : Nat) : Nat := bif Nat.blt cap capOpen then cap else len

def low? (low : Option Value) (h : Nat) : Option Nat :=
  match low with
  | none => some 0
  | some v => sliceBound? v h

/-- The bounds of 'x[low:high:max]': low, high, and what the capacity is then (of an open one: open). -/
def bounds? (len cap : Nat) (low high max : Option Value) : Option (Nat × Nat × Nat) :=
  match max with
  | some mv =>
    match high with
    | none => none
    | some hv => match sliceBound? mv (limit len cap) with
      | none => none
      | some m => match sliceBound? hv m with
        | none => none
        | some h => match low? low h with
          | none => none
          | some l => bif Nat.blt m capOpen then some (l, h, m - l) else none
  | none =>
    match (match high with | none => some len | some hv => sliceBound? hv (limit len cap)) with
    | none => none
    | some h => match low? low h with
      | none => none
      | some l => some (l, h, bif Nat.blt cap capOpen then cap - l else cap)

def slice? (t : TypeId) (x : Value) (low high max : Option Value) : Option Value :=
  match under tb t, x with
  | some .string, .string s =>
    match max with
    | some _ => none
    | none => match bounds? s.size s.size low high none with
      | some (l, h, _) => some (.string (s.extract l h))
      | none => none
  | some (.slice elem), .slice a len cap =>
    bif Nat.blt cap capOpen then
      match bounds? len cap low high max, sizeOf? tb elem with
      | some (l, h, c), some size => some (.slice (bif Nat.beq c 0 then a else a.map (·.add (l * size))) (h - l) c)
      | _, _ => none
    else none
  | some (.array n elem), .pointer (some a) =>
    match bounds? n n low high max, sizeOf? tb elem with
    | some (l, h, c), some size => bif Nat.blt n capOpen then some (.slice (some (bif Nat.beq c 0 then a else a.add (l * size))) (h - l) c) else none
    | _, _ => none
  | _, _ => none

def places? : List Field → Option (List (Nat × Nat))
  | [] => some []
  | f :: fs => match sizeOf? tb f.type, places? fs with
    | some n, some l => some ((f.offset, n) :: l)
    | _, _ => none

def putAt (off : Nat) (cs : Array Value) (p : Value × Nat) : Array Value := cs.setIfInBounds (off + p.2) p.1

def fillAgg (place : Nat → Option (Nat × Nat)) : Array Value → List (Nat × Value) → Option (Array Value)
  | cs, [] => some cs
  | cs, (i, v) :: rest =>
    match place i with
    | none => none
    | some (off, size) =>
      bif isTop v || !(Nat.beq v.cells.size size) || Nat.blt cs.size (off + v.cells.size) then none
      else fillAgg place (v.cells.toList.zipIdx.foldl (putAt off) cs) rest

/-- Nil, and what is not nil. -/
def nilPair (d : TypeDesc) (x y : Value) : Bool :=
  match d, x, y with
  | .pointer _, .pointer none, .pointer (some _) => true
  | .pointer _, .pointer (some _), .pointer none => true
  | .slice _, .slice none _ _, .slice (some _) _ _ => true
  | .slice _, .slice (some _) _ _, .slice none _ _ => true
  | .func _ _ _, .nilFunc, .func _ _ _ => true
  | .func _ _ _, .func _ _ _, .nilFunc => true
  | .map _ _, .map none, .map (some _) => true
  | .map _ _, .map (some _), .map none => true
  | .interface _, .nilIface, .iface _ _ => true
  | .interface _, .iface _ _, .nilIface => true
  | _, _, _ => false

/-- What is nil against what is not. -/
def eqNil? (d : TypeDesc) (op : BinOp) (x y : Value) : Option Value :=
  bif nilPair d x y then
    match op with
    | .eql => some (.bool false)
    | .neq => some (.bool true)
    | _ => none
  else none

/-- A closed value that a run without memory tells. -/
def pureVal (s : Sem Value) : Option Value :=
  match pureRun tb.P s with
  | some v => bif closed 2 v then some v else none
  | none => none

/-- Operations that leave memory alone and do not look at it. -/
def apure (ρ : Operand → Value) (o : Oper) : Option Value :=
  match o.op with
  | .move x | .assign x => some (ρ x)
  | .pick c a b => match ρ c with
    | .bool t => some (bif t then ρ a else ρ b)
    | _ => none
  | .binOp op t x y _ =>
    match ρ x, ρ y with
    | .int k a, .int k' b => pureVal tb (binOp op t (.int k a) (.int k' b))
    | a, b =>
      match (match under tb t with | some d => eqNil? d op a b | none => none) with
      | some v => some v
      | none => bif closed 6 a && closed 6 b then pureVal tb (do eqGuard op t x y a b; binOp op t a b) else none
  | .unOp op _ x => bif closed 1 (ρ x) then pureVal tb (Op.unary op (ρ x)) else none
  | .convert src dst x =>
    match under tb src, under tb dst, ρ x with
    | some _, some (.int k), .int _ n => some (.int k (k.wrap n))
    | some _, some .string, .string s => some (.string s)
    | _, _, _ => none
  | .makeInterface t x =>
    match under tb t with
    | some (.interface _) => none
    | some _ => some (.iface t (ρ x))
    | none => none
  | .makeFunc fn first captured => match fn with
    | .yield _ => none
    | fn => some (.func fn (first.map ρ) (captured.map ρ))
  | .build t parts =>
    match zero? tb t, under tb t with
    | some z, some (.struct fields) =>
      match places? tb fields.toList with
      | some l => (fillAgg (fun i => l[i]?) z.cells (parts.toList.map fun p => (p.1, ρ p.2))).map fun cs => .agg cs
      | none => none
    | some z, some (.array _ elem) =>
      match sizeOf? tb elem with
      | some n => (fillAgg (fun i => some (i * n, n)) z.cells (parts.toList.map fun p => (p.1, ρ p.2))).map fun cs => .agg cs
      | none => none
    | _, _ => none
  | .nilCheck x =>
    match ρ x with
    | .pointer (some a) => some (.pointer (some a))
    | .iface t v => some (.iface t v)
    | .func (.method name) first cap => match (first[0]? : Option Value) with
      | some (.iface t _) => match tb.info.get t with
        | some i => match i.methods.find? (·.name == name) with
          | some m => bif m.path.isEmpty then
              match m.func, under tb t with
              | some (_, true), some _ => some (.func (.method name) first cap)
              | some (_, false), some (.pointer _) => none
              | some (_, false), some _ => some (.func (.method name) first cap)
              | _, _ => none
            else none
          | none => none
        | none => none
      | _ => none
    | .func fn f c => some (.func fn f c)
    | _ => none
  | .slice t x lo hi mx => slice? tb t (ρ x) (lo.map ρ) (hi.map ρ) (mx.map ρ)
  | .fieldAddr s x f =>
    match field? tb s f, ρ x with
    | some f, .pointer (some a) => match sizeOf? tb f.type with
      | some n => bif Nat.beq n 0 then none else some (.pointer (some (a.add f.offset)))
      | none => none
    | _, _ => none
  | .field t x f =>
    match field? tb t f, ρ x with
    | some f, .agg cs => part? tb f.type cs f.offset
    | _, _ => none
  | .indexAddr t x ix =>
    match under tb t, ρ x, ρ ix with
    | some (.array len elem), .pointer (some a), .int _ i =>
      bif decide (0 ≤ i) && decide (i < len) then (sizeOf? tb elem).map fun n => .pointer (some (a.add (i.toNat * n))) else none
    | some (.slice elem), .slice (some a) len _, .int _ i =>
      bif decide (0 ≤ i) && decide (i < len) then (sizeOf? tb elem).map fun n => .pointer (some (a.add (i.toNat * n))) else none
    | _, _, _ => none
  | .index t x ix =>
    match under tb t, ρ x, ρ ix with
    | some (.array len elem), .agg cs, .int _ i =>
      bif decide (0 ≤ i) && decide (i < len) then match sizeOf? tb elem with | some n => part? tb elem cs (i.toNat * n) | none => none else none
    | some .string, .string s, .int _ i =>
      bif decide (0 ≤ i) then match s[i.toNat]? with | some b => some (.int .u8 b.toNat) | none => none else none
    | _, _, _ => none
  | .extract x i =>
    match ρ x with
    | .tuple vs => vs[i]?
    | _ => none
  | .typeAssert x _ asserted ok =>
    match under tb asserted, ρ x with
    | some (.interface _), _ => none
    | some _, .iface t v =>
      bif Nat.beq t asserted then some (bif ok then .tuple #[v, .bool true] else v)
      else bif ok then (zero? tb asserted).map fun z => .tuple #[z, .bool false] else none
    | some _, .nilIface => bif ok then (zero? tb asserted).map fun z => .tuple #[z, .bool false] else none
    | _, _ => none
  | .call c =>
    match c.callee with
    | .builtin .len =>
      match c.args.toList, c.argTypes.toList with
      | [x], [t] => match under tb t, ρ x with
        | some .string, .string s => some (.int .i64 s.size)
        | some (.slice _), .slice _ n _ => some (.int .i64 n)
        | some (.array n _), _ => some (.int .i64 n)
        | some (.map _ _), .map none => some (.int .i64 0)
        | _, _ => none
      | _, _ => none
    | .builtin .cap =>
      match c.args.toList, c.argTypes.toList with
      | [x], [t] => match under tb t, ρ x with
        | some (.slice _), .slice _ _ n => bif Nat.blt n capOpen then some (.int .i64 n) else none
        | _, _ => none
      | _, _ => none
    | .builtin .unsafeSliceData =>
      match c.args.toList with
      | [x] => match ρ x with
        | .slice (some a) (_ + 1) _ => some (.pointer (some a))
        | .slice none _ _ => some (.pointer none)
        | _ => none
      | _ => none
    | .builtin .min => bif (c.args.toList.map ρ).all (closed 1) then pureVal tb (Builtin.min_ c.argTypes o.type (c.args.map ρ)) else none
    | .builtin .max => bif (c.args.toList.map ρ).all (closed 1) then pureVal tb (Builtin.max_ c.argTypes o.type (c.args.map ρ)) else none
    | _ => none
  | _ => none

/-! Memory. -/
def getBlk (m : Mem) (b : Nat) : Option Blk := m.blk.get b
def setBlk (m : Mem) (b : Nat) (x : Blk) : Mem := { m with blk := m.blk.set b x }
def newBlk (m : Mem) (x : Blk) : Nat × Mem := (m.next, { blk := m.blk.set m.next x, next := m.next + 1 })

def cellAt (c : T Value) (dflt : Array Value) (i : Nat) : Option Value :=
  match c.get i with
  | some v => some v
  | none => dflt[Nat.mod i dflt.size]?

def readFrom (c : T Value) (dflt : Array Value) (n : Nat) : Nat → Nat → Option (List Value)
  | _, 0 => some []
  | o, k + 1 =>
    bif Nat.blt o n then
      match cellAt c dflt o with
      | some v => match readFrom c dflt n (o + 1) k with
        | some vs => some (v :: vs)
        | none => none
      | none => none
    else none

def readCells (m : Mem) (a : Addr) (k : Nat) : Option (List Value) :=
  match k with
  | 0 => some []
  | k + 1 => match a.spot with
    | some _ => none
    | none => match getBlk m a.block with
      | some (.cells c d n _ _ _ _) => readFrom c d n a.off (k + 1)
      | _ => none

def writeCells (m : Mem) (a : Addr) (vs : List Value) : Option Mem :=
  match vs with
  | [] => some m
  | _ => match a.spot with
    | some _ => none
    | none => match getBlk m a.block with
      | some (.cells c d n opn false e es) =>
        bif Nat.ble (a.off + vs.length) n && vs.all oneCell then some (setBlk m a.block (.cells (c.fill a.off vs) d n opn false e es)) else none
      | _ => none

def load? (t : TypeId) (a : Addr) (m : Mem) : Option Value :=
  match isAgg? tb t, sizeOf? tb t with
  | some true, some n => (readCells m a n).map fun vs => .agg vs.toArray
  | some false, some _ => match readCells m a 1 with
    | some [v] => some v
    | _ => none
  | _, _ => none

def store? (t : TypeId) (a : Addr) (v : Value) (m : Mem) : Option Mem :=
  match sizeOf? tb t with
  | some n => bif Nat.beq v.cells.size n then writeCells m a v.cells.toList else none
  | none => none

def bytesOf? : List Value → Option (List UInt8)
  | [] => some []
  | .int .u8 n :: rest => (bytesOf? rest).map fun l => UInt8.ofNat n.toNat :: l
  | _ => none

def textOf? (m : Mem) (a : Option Addr) (n : Nat) : Option Value :=
  match a with
  | none => some (.string .empty)
  | some a => match readCells m a n with
    | some vs => (bytesOf? vs).map fun l => .string ⟨l.toArray⟩
    | none => none

/-- A slice that may go on is sliced. -/
def sliceOpen? (t : TypeId) (x : Value) (low high max : Option Value) (m : Mem) : Option Value :=
  match under tb t, x with
  | some (.slice elem), .slice (some a) len cap =>
    bif Nat.beq cap capOpen && a.spot.isNone then
      match getBlk m a.block, bounds? len cap low high max, sizeOf? tb elem with
      | some (.cells _ _ _ _ _ _ es), some (l, h, c), some size =>
        bif Nat.beq es size then some (.slice (some (bif Nat.beq c 0 then a else a.add (l * size))) (h - l) c) else none
      | _, _, _ => none
    else none
  | _, _ => none

/-- The kind of a map's keys: whole numbers, texts, bools alone. -/
def keyKind? (t : TypeId) : Option TypeDesc :=
  match under tb t with
  | some (.int k) => some (.int k)
  | some .string => some .string
  | some .bool => some .bool
  | _ => none

def entries? (m : Mem) (r : Option Nat) : Option (List MapEntry) :=
  match r with
  | none => some []
  | some r => match getBlk m r with
    | some (.obj (.map es _)) => some es.toList
    | _ => none

/-- Operations that look at memory and leave it alone. -/
def aread (ρ : Operand → Value) (o : Oper) (m : Mem) : Option Value :=
  match o.op with
  | .load t x => match ρ x with
    | .pointer (some a) => load? tb t a m
    | _ => none
  | .slice t x lo hi mx => sliceOpen? tb t (ρ x) (lo.map ρ) (hi.map ρ) (mx.map ρ) m
  | .convert src dst x =>
    match under tb src, under tb dst, ρ x with
    | some (.slice e), some .string, .slice a len _ =>
      match under tb e with
      | some (.int .u8) => textOf? m a len
      | _ => none
    | some (.pointer e), some .unsafePointer, .pointer (some a) =>
      match a.spot, getBlk m a.block, sizeOf? tb e with
      | none, some (.cells _ _ n _ _ _ _), some (_ + 1) => bif Nat.blt a.off n then some (.pointer (some a)) else none
      | _, _, _ => none
    | some .unsafePointer, some (.pointer u), .pointer (some a) =>
      match a.spot, getBlk m a.block, sizeOf? tb u with
      | none, some (.cells _ _ n false _ e es), some (k + 1) =>
        bif Nat.beq a.off 0 && Nat.beq n es && Nat.beq es (k + 1) && Nat.beq e u then some (.pointer (some a)) else none
      | _, _, _ => none
    | _, _, _ => none
  | .lookup t x ix ok =>
    match under tb t, ρ x with
    | some (.map key elem), .map r =>
      match keyKind? tb key, entries? m r with
      | some d, some es => match Instr.findNow d (ρ ix) es 0 with
        | some (some (_, v)) => some (bif ok then .tuple #[v, .bool true] else v)
        | some none => (zero? tb elem).map fun z => bif ok then .tuple #[z, .bool false] else z
        | none => none
      | _, _ => none
    | _, _ => none
  | .call c =>
    match c.callee with
    | .builtin .len =>
      match c.args.toList, c.argTypes.toList with
      | [x], [t] => match under tb t, ρ x with
        | some (.map _ _), .map (some r) => match getBlk m r with
          | some (.obj (.map es _)) => some (.int .i64 es.size)
          | _ => none
        | _, _ => none
      | _, _ => none
    | _ => none
  | .binOp op t x y _ =>
    match under tb t, ρ x, ρ y with
    | some (.pointer e), .pointer (some a), .pointer (some b) =>
      match sizeOf? tb e with
      | some (_ + 1) =>
        bif Nat.beq a.block b.block then
          match op with
          | .eql => some (.bool (Nat.beq a.off b.off))
          | .neq => some (.bool (!Nat.beq a.off b.off))
          | _ => none
        else none
      | _ => none
    | _, _, _ => none
  | _ => none

def isIntD : TypeDesc → Bool
  | .int _ => true
  | _ => false

/-- What an append puts behind: how many, their cells. zeros: so many zeros. -/
def appended? (size bytes : Nat) (zero : Array Value) (zeros : Bool) (x : Value) (m : Mem) : Option (Nat × List Value) :=
  match zeros, x with
  | true, .int _ l =>
    bif decide (0 ≤ l) && decide (l ≤ 2 ^ 20) && decide (l * bytes ≤ 2 ^ 40) then
      some (l.toNat, (List.range (l.toNat * zero.size)).map fun i => zero[i % zero.size]!) else none
  | false, .slice (some a) n _ => (readCells m a (n * size)).map fun l => (n, l)
  | false, .slice none n _ => bif Nat.beq n 0 then some (0, []) else none
  | false, .string s => bif Nat.beq size 1 then some (s.size, s.data.toList.map fun b => .int .u8 b.toNat) else none
  | _, _ => none

/-- A slice of what stood there and what comes behind it, in an array of its own. -/
def grown (elem size need : Nat) (cs : List Value) (m : Mem) : Value × Mem :=
  (.slice (some ⟨m.next, 0, none⟩) need capOpen, (newBlk m (.cells (T.nil.fill 0 cs) #[] (need * size) true false elem size)).2)

def append? (elem size bytes : Nat) (zero : Array Value) (zeros : Bool) (s x : Value) (m : Mem) : Option (Value × Mem) :=
  match s with
  | .slice base sLen sCap =>
    match appended? size bytes zero zeros x m with
    | none => none
    | some (n, new) =>
      let need := sLen + n
      bif Nat.beq bytes 0 || Nat.beq size 0 || Nat.blt (2 ^ 62) need || !(Nat.beq zero.size size) then none else
      bif Nat.blt sCap capOpen then
        bif Nat.ble need sCap then
          match base with
          | none => bif Nat.beq n 0 then some (s, m) else none
          | some a => match writeCells m (a.add (sLen * size)) new with
            | some m' => some (.slice base need sCap, m')
            | none => none
        else bif Nat.blt (2 ^ 48) (Builtin.nextslicecap need sCap * bytes) then none
        else
          match (match base with | none => bif Nat.beq sLen 0 then some [] else none | some a => readCells m a (sLen * size)) with
          | none => none
          | some old => some (grown elem size need (old ++ new) m)
      else bif Nat.beq n 0 then some (s, m)
      else bif Nat.blt (2 ^ 48) ((2 * need + 1000) * bytes) || !(new.all oneCell) then none
      else match base with
        | none => none
        | some a => match a.spot, getBlk m a.block with
          | none, some (.cells c d k true false e es) =>
            bif Nat.beq es size && Nat.beq e elem then
              bif Nat.beq a.off 0 && Nat.beq k (sLen * size) && Nat.beq d.size 0 then
                let m1 := setBlk m a.block .dead
                some (.slice (some ⟨m1.next, 0, none⟩) need capOpen, (newBlk m1 (.cells (c.fill (sLen * size) new) #[] (need * size) true false elem size)).2)
              else match readFrom c d k a.off (sLen * size) with
                | none => none
                | some old => some (grown elem size need (old ++ new) (setBlk m a.block .dead))
            else none
          | _, _ => none
  | _ => none

def copy? (size : Nat) (dst src : Value) (m : Mem) : Option (Value × Mem) :=
  match dst with
  | .slice base dLen _ =>
    match (match src with | .slice _ n _ => some n | .string s => some s.size | _ => none) with
    | none => none
    | some sn =>
      let n := Nat.min sn dLen
      match (match src with
        | .slice (some a) _ _ => readCells m a (n * size)
        | .slice none _ _ => some []
        | .string s => bif Nat.beq size 1 then some ((s.extract 0 n).data.toList.map fun b => .int .u8 b.toNat) else none
        | _ => none) with
      | none => none
      | some cs => match base with
        | none => some (.int .i64 n, m)
        | some a => match writeCells m a cs with
          | some m' => some (.int .i64 n, m')
          | none => none
  | _ => none

/-- Whom a call calls. -/
def target? (ρ : Operand → Value) (callee : Callee) (args : List Value) : Option Tgt :=
  match callee with
  | .builtin _ => none
  | .value f => match ρ f with
    | .func (.func g) first cap => some (.fn g (first.toList ++ args ++ cap.toList))
    | .func (.yield l) first _ => some (.round l (first.toList ++ args))
    | .func (.via t path g ptr) first _ =>
      bif path.isEmpty then
        match first.toList ++ args with
        | x :: rest => match under tb t, ptr with
          | some (.pointer _), true => some (.fn g (x :: rest))
          | some (.pointer _), false => none
          | some _, false => some (.fn g (x :: rest))
          | _, _ => none
        | [] => none
      else none
    | _ => none
  | .invoke recv name => match ρ recv with
    | .iface t v => match tb.info.get t with
      | some i => match i.methods.find? (·.name == name) with
        | some m => bif m.path.isEmpty then
            match m.func, under tb t with
            | some (g, true), some (.pointer _) => some (.fn g (v :: args))
            | some (_, false), some (.pointer _) => none
            | some (g, false), some _ => some (.fn g (v :: args))
            | _, _ => none
          else none
        | none => none
      | none => none
    | _ => none

abbrev Runner := Tgt → Mem → Option (Out × Mem)

def sizes? (t : TypeId) : Option (TypeId × Nat × Nat × Option Value) :=
  match under tb t with
  | some (.slice e) => match tb.info.get e with
    | some i => some (e, i.size, i.bytes, i.zero)
    | none => none
  | _ => none

/-- Operations that make a block and do no more: the block, and what they tell where it gets the number b. -/
def makes? (ρ : Operand → Value) (o : Oper) : Option (Blk × (Nat → Value)) :=
  match o.op with
  | .alloc t => match zero? tb t, sizeOf? tb t with
    | some z, some n => bif Nat.beq z.cells.size n then some (.cells .nil z.cells n false false t n, fun b => .pointer (some ⟨b, 0, none⟩)) else none
    | _, _ => none
  | .box t v =>
    bif (ρ v).cells.toList.all oneCell then
      some (.cells .nil (ρ v).cells (ρ v).cells.size false false t (ρ v).cells.size, fun b => .pointer (some ⟨b, 0, none⟩))
    else none
  | .buildSlice t len parts =>
    match sizes? tb t with
    | some (e, size, _, z) =>
      bif Nat.blt (2 ^ 20) (len * size) || Nat.blt (2 ^ 20) len then none else
      match (bif Nat.beq (len * size) 0 then some #[] else match z with
        | some z => bif Nat.beq z.cells.size size then some z.cells else none
        | none => none) with
      | some z =>
        match fillAgg (fun i => some (i * size, size)) ((Array.range (len * size)).map (z[· % z.size]!)) (parts.toList.map fun p => (p.1, ρ p.2)) with
        | some cs => some (.cells (T.nil.fill 0 cs.toList) #[] (len * size) false false e size, fun b => .slice (some ⟨b, 0, none⟩) len len)
        | none => none
      | none => none
    | none => none
  | .makeSlice t l c =>
    match sizes? tb t, ρ l, ρ c with
    | some (e, size, bytes, some z), .int _ l, .int _ c =>
      bif decide (0 ≤ l) && decide (l ≤ c) && decide (bytes * c ≤ 2 ^ 40) && decide (c ≤ 2 ^ 40) && Nat.beq z.cells.size size then
        some (.cells .nil z.cells (c.toNat * size) false false e size, fun b => .slice (some ⟨b, 0, none⟩) l.toNat c.toNat)
      else none
    | _, _, _ => none
  | .makeMap t r =>
    match (match r with
      | none => true
      | some x => match ρ x, under tb t with
        | .int _ _, some (.map _ _) => true
        | _, _ => false) with
    | true => some (.obj (.map #[] 0), fun b => .map (some b))
    | false => none
  | _ => none

/-- Operations that change memory. -/
def amem (ρ : Operand → Value) (o : Oper) (m : Mem) : Option (Value × Mem) :=
  match o.op with
  | .store t x v => match ρ x with
    | .pointer (some a) => match store? tb t a (ρ v) m with
      | some m' => some (undef, m')
      | none => none
    | _ => none
  | .mapUpdate t x key v | .insert t x key v =>
    match under tb t, ρ x with
    | some (.map kt _), .map (some r) =>
      match keyKind? tb kt, getBlk m r with
      | some d, some (.obj (.map es clock)) =>
        bif closed 1 (ρ key) then
          match Instr.findNow d (ρ key) es.toList 0 with
          | some (some (i, _)) => some (undef, setBlk m r (.obj (.map (es.modify i fun e => { e with key := ρ key, val := ρ v }) clock)))
          | some none => some (undef, setBlk m r (.obj (.map (es.push { key := ρ key, val := ρ v, born := clock }) (clock + 1))))
          | none => none
        else none
      | _, _ => none
    | _, _ => none
  | .range t x =>
    match under tb t, ρ x with
    | some .string, .string s => some (.pointer (some ⟨m.next, 0, none⟩), (newBlk m (.obj (.stringIter s 0))).2)
    | _, _ => none
  | .next x true =>
    match ρ x with
    | .pointer (some ⟨r, 0, none⟩) => match getBlk m r with
      | some (.obj (.stringIter s pos)) =>
        bif Nat.blt pos s.size then
          some (.tuple #[.bool true, .int .i64 pos, .int .i32 (Utf8.decode s pos).1], setBlk m r (.obj (.stringIter s (pos + (Utf8.decode s pos).2))))
        else some (.tuple #[.bool false], m)
      | _ => none
    | _ => none
  | .convert src dst x =>
    match under tb src, under tb dst, ρ x with
    | some _, some (.slice e), .string s =>
      match under tb e with
      | some (.int .u8) =>
        some (.slice (some ⟨m.next, 0, none⟩) s.size capOpen, (newBlk m (.cells (T.nil.fill 0 (s.data.toList.map fun b => .int .u8 b.toNat)) #[] s.size true false e 1)).2)
      | _ => none
    | some (.slice _), some (.slice e), .slice (some a) len cap =>
      match under tb e, getBlk m a.block with
      | some (.int .u8), some (.cells _ _ _ _ false _ _) => bif Nat.beq src dst && Nat.blt 0 len then some (.slice (some a) len cap, m) else none
      | _, _ => none
    | _, _, _ => none
  | .call c =>
    match c.callee with
    | .builtin .append =>
      match c.args.toList, c.argTypes.toList with
      | [s, x], [t, t2] => match sizes? tb t, under tb t2 with
        | some (e, size, bytes, some z), some d => append? e size bytes z.cells (isIntD d) (ρ s) (ρ x) m
        | _, _ => none
      | _, _ => none
    | .builtin .copy =>
      match c.args.toList, c.argTypes.toList with
      | [d, s], [t, _] => match sizes? tb t with
        | some (_, size, _, _) => copy? size (ρ d) (ρ s) m
        | none => none
      | _, _ => none
    | .builtin .unsafeString =>
      match c.args.toList, c.argTypes.toList with
      | [p, l], [t, _] =>
        match under tb t, ρ p, ρ l with
        | some (.pointer u), .pointer (some a), .int _ (.ofNat (n + 1)) =>
          match getBlk m a.block, sizeOf? tb u, readCells m a (n + 1) with
          | some (.cells _ _ _ _ false e 1), some 1, some vs =>
            bif Nat.beq e u && Nat.ble (n + 1) (2 ^ 40) then
              match bytesOf? vs with
              | some l => some (.string ⟨l.toArray⟩, setBlk m a.block .dead)
              | none => none
            else none
          | _, _, _ => none
        | _, _, _ => none
      | _, _ => none
    | _ => none
  | _ => none

/-- Operations that call, or leave. -/
def actl (run : Runner) (rd : Option Nat) (ρ : Operand → Value) (o : Oper) (z : Nz) : Option (OOut × Nz) :=
  match o.op with
  | .defer c =>
    match rd, c.callee with
    | none, .value f => match ρ f with
      | .func fn first cap => some (.val undef, { z with defs := { target := .fn fn cap, args := first ++ c.args.map ρ } :: z.defs })
      | _ => none
    | _, _ => none
  | .panic x =>
    match ρ x with
    | .iface t v => some (.pan (.iface t v), z)
    | _ => none
  | .call c =>
    match c.callee with
    | .builtin .recover =>
      match rd, z.pan with
      | none, some v => some (.val v, { z with pan := none })
      | none, none => some (.val .nilIface, z)
      | some _, _ => none
    | .builtin _ => none
    | callee => match target? tb ρ callee (c.args.toList.map ρ) with
      | some t => match run t z.mem with
        | some (.ret v _, m) => some (.val v, { z with mem := m })
        | some (.pan v, m) => some (.pan v, { z with mem := m })
        | none => none
      | none => none
  | _ => none

def aoperS (run : Runner) (rd : Option Nat) (ρ : Operand → Value) (o : Oper) (z : Nz) : Option (Nat × OOut × Nz) :=
  match apure tb ρ o with
  | some v => some (0, .val v, z)
  | none => match aread tb ρ o z.mem with
    | some v => some (1, .val v, z)
    | none => match makes? tb ρ o with
      | some (x, f) => some (3, .val (f z.mem.next), { z with mem := (newBlk z.mem x).2 })
      | none => match amem tb ρ o z.mem with
        | some (v, m) => some (2, .val v, { z with mem := m })
        | none => match actl tb run rd ρ o z with
          | some (v, z) => some (2, v, z)
          | none => none

def apure_pick (ρ : Operand → Value) (c a b : Operand)  : Option Value :=
  match ρ c with
    | .bool t => some (bif t then ρ a else ρ b)
    | _ => none

def apure_binOp (ρ : Operand → Value) (op : BinOp) (t : TypeId) (x y : Operand)  : Option Value :=
      match ρ x, ρ y with
    | .int k a, .int k' b => pureVal tb (binOp op t (.int k a) (.int k' b))
    | a, b =>
      match (match under tb t with | some d => eqNil? d op a b | none => none) with
      | some v => some v
      | none => bif closed 6 a && closed 6 b then pureVal tb (do eqGuard op t x y a b; binOp op t a b) else none

def apure_unOp (ρ : Operand → Value) (op : UnOp) (x : Operand)  : Option Value :=
  bif closed 1 (ρ x) then pureVal tb (Op.unary op (ρ x)) else none

def apure_convert (ρ : Operand → Value) (src dst : TypeId) (x : Operand)  : Option Value :=
      match under tb src, under tb dst, ρ x with
    | some _, some (.int k), .int _ n => some (.int k (k.wrap n))
    | some _, some .string, .string s => some (.string s)
    | _, _, _ => none

def apure_makeInterface (ρ : Operand → Value) (t : TypeId) (x : Operand)  : Option Value :=
      match under tb t with
    | some (.interface _) => none
    | some _ => some (.iface t (ρ x))
    | none => none

def apure_makeFunc (ρ : Operand → Value) (fn : Fn) (first captured : Array Operand)  : Option Value :=
  match fn with
    | .yield _ => none
    | fn => some (.func fn (first.map ρ) (captured.map ρ))

def apure_build (ρ : Operand → Value) (t : TypeId) (parts : Array (Nat × Operand))  : Option Value :=
      match zero? tb t, under tb t with
    | some z, some (.struct fields) =>
      match places? tb fields.toList with
      | some l => (fillAgg (fun i => l[i]?) z.cells (parts.toList.map fun p => (p.1, ρ p.2))).map fun cs => .agg cs
      | none => none
    | some z, some (.array _ elem) =>
      match sizeOf? tb elem with
      | some n => (fillAgg (fun i => some (i * n, n)) z.cells (parts.toList.map fun p => (p.1, ρ p.2))).map fun cs => .agg cs
      | none => none
    | _, _ => none

def apure_nilCheck (ρ : Operand → Value) (x : Operand)  : Option Value :=
      match ρ x with
    | .pointer (some a) => some (.pointer (some a))
    | .iface t v => some (.iface t v)
    | .func (.method name) first cap => match (first[0]? : Option Value) with
      | some (.iface t _) => match tb.info.get t with
        | some i => match i.methods.find? (·.name == name) with
          | some m => bif m.path.isEmpty then
              match m.func, under tb t with
              | some (_, true), some _ => some (.func (.method name) first cap)
              | some (_, false), some (.pointer _) => none
              | some (_, false), some _ => some (.func (.method name) first cap)
              | _, _ => none
            else none
          | none => none
        | none => none
      | _ => none
    | .func fn f c => some (.func fn f c)
    | _ => none

def apure_slice (ρ : Operand → Value) (t : TypeId) (x : Operand) (lo hi mx : Option Operand)  : Option Value :=
  slice? tb t (ρ x) (lo.map ρ) (hi.map ρ) (mx.map ρ)

def apure_fieldAddr (ρ : Operand → Value) (s : TypeId) (x : Operand) (f : Nat)  : Option Value :=
      match field? tb s f, ρ x with
    | some f, .pointer (some a) => match sizeOf? tb f.type with
      | some n => bif Nat.beq n 0 then none else some (.pointer (some (a.add f.offset)))
      | none => none
    | _, _ => none

def apure_field (ρ : Operand → Value) (t : TypeId) (x : Operand) (f : Nat)  : Option Value :=
      match field? tb t f, ρ x with
    | some f, .agg cs => part? tb f.type cs f.offset
    | _, _ => none

def apure_indexAddr (ρ : Operand → Value) (t : TypeId) (x ix : Operand)  : Option Value :=
      match under tb t, ρ x, ρ ix with
    | some (.array len elem), .pointer (some a), .int _ i =>
      bif decide (0 ≤ i) && decide (i < len) then (sizeOf? tb elem).map fun n => .pointer (some (a.add (i.toNat * n))) else none
    | some (.slice elem), .slice (some a) len _, .int _ i =>
      bif decide (0 ≤ i) && decide (i < len) then (sizeOf? tb elem).map fun n => .pointer (some (a.add (i.toNat * n))) else none
    | _, _, _ => none

def apure_index (ρ : Operand → Value) (t : TypeId) (x ix : Operand)  : Option Value :=
      match under tb t, ρ x, ρ ix with
    | some (.array len elem), .agg cs, .int _ i =>
      bif decide (0 ≤ i) && decide (i < len) then match sizeOf? tb elem with | some n => part? tb elem cs (i.toNat * n) | none => none else none
    | some .string, .string s, .int _ i =>
      bif decide (0 ≤ i) then match s[i.toNat]? with | some b => some (.int .u8 b.toNat) | none => none else none
    | _, _, _ => none

def apure_extract (ρ : Operand → Value) (x : Operand) (i : Nat)  : Option Value :=
      match ρ x with
    | .tuple vs => vs[i]?
    | _ => none

def apure_typeAssert (ρ : Operand → Value) (x : Operand) (asserted : TypeId) (ok : Bool)  : Option Value :=
      match under tb asserted, ρ x with
    | some (.interface _), _ => none
    | some _, .iface t v =>
      bif Nat.beq t asserted then some (bif ok then .tuple #[v, .bool true] else v)
      else bif ok then (zero? tb asserted).map fun z => .tuple #[z, .bool false] else none
    | some _, .nilIface => bif ok then (zero? tb asserted).map fun z => .tuple #[z, .bool false] else none
    | _, _ => none

def apure_call (ρ : Operand → Value) (ty : TypeId) (c : Call)  : Option Value :=
      match c.callee with
    | .builtin .len =>
      match c.args.toList, c.argTypes.toList with
      | [x], [t] => match under tb t, ρ x with
        | some .string, .string s => some (.int .i64 s.size)
        | some (.slice _), .slice _ n _ => some (.int .i64 n)
        | some (.array n _), _ => some (.int .i64 n)
        | some (.map _ _), .map none => some (.int .i64 0)
        | _, _ => none
      | _, _ => none
    | .builtin .cap =>
      match c.args.toList, c.argTypes.toList with
      | [x], [t] => match under tb t, ρ x with
        | some (.slice _), .slice _ _ n => bif Nat.blt n capOpen then some (.int .i64 n) else none
        | _, _ => none
      | _, _ => none
    | .builtin .unsafeSliceData =>
      match c.args.toList with
      | [x] => match ρ x with
        | .slice (some a) (_ + 1) _ => some (.pointer (some a))
        | .slice none _ _ => some (.pointer none)
        | _ => none
      | _ => none
    | .builtin .min => bif (c.args.toList.map ρ).all (closed 1) then pureVal tb (Builtin.min_ c.argTypes ty (c.args.map ρ)) else none
    | .builtin .max => bif (c.args.toList.map ρ).all (closed 1) then pureVal tb (Builtin.max_ c.argTypes ty (c.args.map ρ)) else none
    | _ => none

def aread_load (ρ : Operand → Value) (t : TypeId) (x : Operand) (m : Mem) : Option Value :=
  match ρ x with
    | .pointer (some a) => load? tb t a m
    | _ => none

def aread_slice (ρ : Operand → Value) (t : TypeId) (x : Operand) (lo hi mx : Option Operand) (m : Mem) : Option Value :=
  sliceOpen? tb t (ρ x) (lo.map ρ) (hi.map ρ) (mx.map ρ) m

def aread_convert (ρ : Operand → Value) (src dst : TypeId) (x : Operand) (m : Mem) : Option Value :=
      match under tb src, under tb dst, ρ x with
    | some (.slice e), some .string, .slice a len _ =>
      match under tb e with
      | some (.int .u8) => textOf? m a len
      | _ => none
    | some (.pointer e), some .unsafePointer, .pointer (some a) =>
      match a.spot, getBlk m a.block, sizeOf? tb e with
      | none, some (.cells _ _ n _ _ _ _), some (_ + 1) => bif Nat.blt a.off n then some (.pointer (some a)) else none
      | _, _, _ => none
    | some .unsafePointer, some (.pointer u), .pointer (some a) =>
      match a.spot, getBlk m a.block, sizeOf? tb u with
      | none, some (.cells _ _ n false _ e es), some (k + 1) =>
        bif Nat.beq a.off 0 && Nat.beq n es && Nat.beq es (k + 1) && Nat.beq e u then some (.pointer (some a)) else none
      | _, _, _ => none
    | _, _, _ => none

def aread_lookup (ρ : Operand → Value) (t : TypeId) (x ix : Operand) (ok : Bool) (m : Mem) : Option Value :=
      match under tb t, ρ x with
    | some (.map key elem), .map r =>
      match keyKind? tb key, entries? m r with
      | some d, some es => match Instr.findNow d (ρ ix) es 0 with
        | some (some (_, v)) => some (bif ok then .tuple #[v, .bool true] else v)
        | some none => (zero? tb elem).map fun z => bif ok then .tuple #[z, .bool false] else z
        | none => none
      | _, _ => none
    | _, _ => none

def aread_call (ρ : Operand → Value) (c : Call) (m : Mem) : Option Value :=
      match c.callee with
    | .builtin .len =>
      match c.args.toList, c.argTypes.toList with
      | [x], [t] => match under tb t, ρ x with
        | some (.map _ _), .map (some r) => match getBlk m r with
          | some (.obj (.map es _)) => some (.int .i64 es.size)
          | _ => none
        | _, _ => none
      | _, _ => none
    | _ => none

def aread_binOp (ρ : Operand → Value) (op : BinOp) (t : TypeId) (x y : Operand) : Option Value :=
      match under tb t, ρ x, ρ y with
    | some (.pointer e), .pointer (some a), .pointer (some b) =>
      match sizeOf? tb e with
      | some (_ + 1) =>
        bif Nat.beq a.block b.block then
          match op with
          | .eql => some (.bool (Nat.beq a.off b.off))
          | .neq => some (.bool (!Nat.beq a.off b.off))
          | _ => none
        else none
      | _ => none
    | _, _, _ => none

def makes_alloc (t : TypeId) : Option (Blk × (Nat → Value)) :=
  match zero? tb t, sizeOf? tb t with
    | some z, some n => bif Nat.beq z.cells.size n then some (.cells .nil z.cells n false false t n, fun b => .pointer (some ⟨b, 0, none⟩)) else none
    | _, _ => none

def makes_box (ρ : Operand → Value) (t : TypeId) (v : Operand)  : Option (Blk × (Nat → Value)) :=
      bif (ρ v).cells.toList.all oneCell then
      some (.cells .nil (ρ v).cells (ρ v).cells.size false false t (ρ v).cells.size, fun b => .pointer (some ⟨b, 0, none⟩))
    else none

def makes_buildSlice (ρ : Operand → Value) (t : TypeId) (len : Nat) (parts : Array (Nat × Operand))  : Option (Blk × (Nat → Value)) :=
      match sizes? tb t with
    | some (e, size, _, z) =>
      bif Nat.blt (2 ^ 20) (len * size) || Nat.blt (2 ^ 20) len then none else
      match (bif Nat.beq (len * size) 0 then some #[] else match z with
        | some z => bif Nat.beq z.cells.size size then some z.cells else none
        | none => none) with
      | some z =>
        match fillAgg (fun i => some (i * size, size)) ((Array.range (len * size)).map (z[· % z.size]!)) (parts.toList.map fun p => (p.1, ρ p.2)) with
        | some cs => some (.cells (T.nil.fill 0 cs.toList) #[] (len * size) false false e size, fun b => .slice (some ⟨b, 0, none⟩) len len)
        | none => none
      | none => none
    | none => none

def makes_makeSlice (ρ : Operand → Value) (t : TypeId) (l c : Operand)  : Option (Blk × (Nat → Value)) :=
      match sizes? tb t, ρ l, ρ c with
    | some (e, size, bytes, some z), .int _ l, .int _ c =>
      bif decide (0 ≤ l) && decide (l ≤ c) && decide (bytes * c ≤ 2 ^ 40) && decide (c ≤ 2 ^ 40) && Nat.beq z.cells.size size then
        some (.cells .nil z.cells (c.toNat * size) false false e size, fun b => .slice (some ⟨b, 0, none⟩) l.toNat c.toNat)
      else none
    | _, _, _ => none

def makes_makeMap (ρ : Operand → Value) (t : TypeId) (r : Option Operand)  : Option (Blk × (Nat → Value)) :=
      match (match r with
      | none => true
      | some x => match ρ x, under tb t with
        | .int _ _, some (.map _ _) => true
        | _, _ => false) with
    | true => some (.obj (.map #[] 0), fun b => .map (some b))
    | false => none

def amem_store (ρ : Operand → Value) (t : TypeId) (x v : Operand) (m : Mem) : Option (Value × Mem) :=
  match ρ x with
    | .pointer (some a) => match store? tb t a (ρ v) m with
      | some m' => some (undef, m')
      | none => none
    | _ => none

def amem_mapUpdate (ρ : Operand → Value) (t : TypeId) (x key v : Operand) (m : Mem) : Option (Value × Mem) :=
      match under tb t, ρ x with
    | some (.map kt _), .map (some r) =>
      match keyKind? tb kt, getBlk m r with
      | some d, some (.obj (.map es clock)) =>
        bif closed 1 (ρ key) then
          match Instr.findNow d (ρ key) es.toList 0 with
          | some (some (i, _)) => some (undef, setBlk m r (.obj (.map (es.modify i fun e => { e with key := ρ key, val := ρ v }) clock)))
          | some none => some (undef, setBlk m r (.obj (.map (es.push { key := ρ key, val := ρ v, born := clock }) (clock + 1))))
          | none => none
        else none
      | _, _ => none
    | _, _ => none

def amem_range (ρ : Operand → Value) (t : TypeId) (x : Operand) (m : Mem) : Option (Value × Mem) :=
      match under tb t, ρ x with
    | some .string, .string s => some (.pointer (some ⟨m.next, 0, none⟩), (newBlk m (.obj (.stringIter s 0))).2)
    | _, _ => none

def amem_next (ρ : Operand → Value) (x : Operand) (m : Mem) : Option (Value × Mem) :=
      match ρ x with
    | .pointer (some ⟨r, 0, none⟩) => match getBlk m r with
      | some (.obj (.stringIter s pos)) =>
        bif Nat.blt pos s.size then
          some (.tuple #[.bool true, .int .i64 pos, .int .i32 (Utf8.decode s pos).1], setBlk m r (.obj (.stringIter s (pos + (Utf8.decode s pos).2))))
        else some (.tuple #[.bool false], m)
      | _ => none
    | _ => none

def amem_convert (ρ : Operand → Value) (src dst : TypeId) (x : Operand) (m : Mem) : Option (Value × Mem) :=
      match under tb src, under tb dst, ρ x with
    | some _, some (.slice e), .string s =>
      match under tb e with
      | some (.int .u8) =>
        some (.slice (some ⟨m.next, 0, none⟩) s.size capOpen, (newBlk m (.cells (T.nil.fill 0 (s.data.toList.map fun b => .int .u8 b.toNat)) #[] s.size true false e 1)).2)
      | _ => none
    | some (.slice _), some (.slice e), .slice (some a) len cap =>
      match under tb e, getBlk m a.block with
      | some (.int .u8), some (.cells _ _ _ _ false _ _) => bif Nat.beq src dst && Nat.blt 0 len then some (.slice (some a) len cap, m) else none
      | _, _ => none
    | _, _, _ => none

def amem_call (ρ : Operand → Value) (c : Call) (m : Mem) : Option (Value × Mem) :=
      match c.callee with
    | .builtin .append =>
      match c.args.toList, c.argTypes.toList with
      | [s, x], [t, t2] => match sizes? tb t, under tb t2 with
        | some (e, size, bytes, some z), some d => append? e size bytes z.cells (isIntD d) (ρ s) (ρ x) m
        | _, _ => none
      | _, _ => none
    | .builtin .copy =>
      match c.args.toList, c.argTypes.toList with
      | [d, s], [t, _] => match sizes? tb t with
        | some (_, size, _, _) => copy? size (ρ d) (ρ s) m
        | none => none
      | _, _ => none
    | .builtin .unsafeString =>
      match c.args.toList, c.argTypes.toList with
      | [p, l], [t, _] =>
        match under tb t, ρ p, ρ l with
        | some (.pointer u), .pointer (some a), .int _ (.ofNat (n + 1)) =>
          match getBlk m a.block, sizeOf? tb u, readCells m a (n + 1) with
          | some (.cells _ _ _ _ false e 1), some 1, some vs =>
            bif Nat.beq e u && Nat.ble (n + 1) (2 ^ 40) then
              match bytesOf? vs with
              | some l => some (.string ⟨l.toArray⟩, setBlk m a.block .dead)
              | none => none
            else none
          | _, _, _ => none
        | _, _, _ => none
      | _, _ => none
    | _ => none

def actl_defer (ρ : Operand → Value) (c : Call) (rd : Option Nat) (z : Nz) : Option (OOut × Nz) :=
      match rd, c.callee with
    | none, .value f => match ρ f with
      | .func fn first cap => some (.val undef, { z with defs := { target := .fn fn cap, args := first ++ c.args.map ρ } :: z.defs })
      | _ => none
    | _, _ => none

def actl_panic (ρ : Operand → Value) (x : Operand) (z : Nz) : Option (OOut × Nz) :=
      match ρ x with
    | .iface t v => some (.pan (.iface t v), z)
    | _ => none

def actl_call (ρ : Operand → Value) (c : Call) (run : Runner) (rd : Option Nat) (z : Nz) : Option (OOut × Nz) :=
      match c.callee with
    | .builtin .recover =>
      match rd, z.pan with
      | none, some v => some (.val v, { z with pan := none })
      | none, none => some (.val .nilIface, z)
      | some _, _ => none
    | .builtin _ => none
    | callee => match target? tb ρ callee (c.args.toList.map ρ) with
      | some t => match run t z.mem with
        | some (.ret v _, m) => some (.val v, { z with mem := m })
        | some (.pan v, m) => some (.pan v, { z with mem := m })
        | none => none
      | none => none

def pur (r : Option Value) (z : Nz) (k : Option (Nat × OOut × Nz)) : Option (Nat × OOut × Nz) :=
  match r with
  | some v => some (0, .val v, z)
  | none => k
def rea (r : Option Value) (z : Nz) (k : Option (Nat × OOut × Nz)) : Option (Nat × OOut × Nz) :=
  match r with
  | some v => some (1, .val v, z)
  | none => k
def mak (r : Option (Blk × (Nat → Value))) (z : Nz) (k : Option (Nat × OOut × Nz)) : Option (Nat × OOut × Nz) :=
  match r with
  | some (x, f) => some (3, .val (f z.mem.next), { z with mem := (newBlk z.mem x).2 })
  | none => k
def mew (r : Option (Value × Mem)) (z : Nz) (k : Option (Nat × OOut × Nz)) : Option (Nat × OOut × Nz) :=
  match r with
  | some (v, m) => some (2, .val v, { z with mem := m })
  | none => k
def ctl (r : Option (OOut × Nz)) : Option (Nat × OOut × Nz) :=
  match r with
  | some (v, z) => some (2, v, z)
  | none => none

/-- An operation, by its kind: the same as aoperS, in small pieces. -/
def aoper (run : Runner) (rd : Option Nat) (ρ : Operand → Value) (o : Oper) (z : Nz) : Option (Nat × OOut × Nz) :=
  match o.op with
  | .move x | .assign x => some (0, .val (ρ x), z)
  | .pick c a b => pur (apure_pick ρ c a b) z none
  | .unOp op _ x => pur (apure_unOp tb ρ op x) z none
  | .makeInterface t x => pur (apure_makeInterface tb ρ t x) z none
  | .makeFunc fn first captured => pur (apure_makeFunc ρ fn first captured) z none
  | .build t parts => pur (apure_build tb ρ t parts) z none
  | .nilCheck x => pur (apure_nilCheck tb ρ x) z none
  | .fieldAddr s x f => pur (apure_fieldAddr tb ρ s x f) z none
  | .field t x f => pur (apure_field tb ρ t x f) z none
  | .indexAddr t x ix => pur (apure_indexAddr tb ρ t x ix) z none
  | .index t x ix => pur (apure_index tb ρ t x ix) z none
  | .extract x i => pur (apure_extract ρ x i) z none
  | .typeAssert x _ asserted ok => pur (apure_typeAssert tb ρ x asserted ok) z none
  | .load t x => rea (aread_load tb ρ t x z.mem) z none
  | .lookup t x ix ok => rea (aread_lookup tb ρ t x ix ok z.mem) z none
  | .binOp op t x y _ => pur (apure_binOp tb ρ op t x y) z (rea (aread_binOp tb ρ op t x y) z none)
  | .slice t x lo hi mx => pur (apure_slice tb ρ t x lo hi mx) z (rea (aread_slice tb ρ t x lo hi mx z.mem) z none)
  | .convert src dst x => pur (apure_convert tb ρ src dst x) z (rea (aread_convert tb ρ src dst x z.mem) z (mew (amem_convert tb ρ src dst x z.mem) z none))
  | .alloc t => mak (makes_alloc tb t) z none
  | .box t v => mak (makes_box ρ t v) z none
  | .buildSlice t len parts => mak (makes_buildSlice tb ρ t len parts) z none
  | .makeSlice t l c => mak (makes_makeSlice tb ρ t l c) z none
  | .makeMap t r => mak (makes_makeMap tb ρ t r) z none
  | .store t x v => mew (amem_store tb ρ t x v z.mem) z none
  | .mapUpdate t x key v | .insert t x key v => mew (amem_mapUpdate tb ρ t x key v z.mem) z none
  | .range t x => mew (amem_range tb ρ t x z.mem) z none
  | .next x true => mew (amem_next ρ x z.mem) z none
  | .defer c => ctl (actl_defer ρ c rd z)
  | .panic x => ctl (actl_panic ρ x z)
  | .call c => match c.callee with
    | .builtin _ => pur (apure_call tb ρ o.type c) z (rea (aread_call tb ρ c z.mem) z (mew (amem_call tb ρ c z.mem) z (ctl (actl_call tb ρ c run rd z))))
    | _ => ctl (actl_call tb ρ c run rd z)
  | _ => none

theorem aoper_eq (run : Runner) (rd : Option Nat) (ρ : Operand → Value) (o : Oper) (z : Nz) : aoper tb run rd ρ o z = aoperS tb run rd ρ o z := by
  obtain ⟨dst, op, type, pos, after, guard⟩ := o
  cases op with
  | next x b => cases b <;> rfl
  | call c =>
    obtain ⟨callee, c1, c2⟩ := c
    cases callee <;> rfl
  | _ => rfl

/-- Is an operation wanted? none: not known. -/
def wanted? (ops : Array Oper) (tmps : T Value) (o : Oper) : Option Bool :=
  match o.guard with
  | none => some true
  | some (j, want) =>
    match ops[j]? with
    | some g => match g.dst with
      | some t => match tmps.get t with
        | some (.bool b) => some (b == want)
        | some (.tuple _) => some false
        | none => some false
        | _ => none
      | none => some false
    | none => some false

def putDst (nt : Nat) (tmps : T Value) (dst : Option Tmp) (v : Value) : Option (T Value) :=
  match dst with
  | none => some tmps
  | some d => bif Nat.blt d nt then some (tmps.set d v) else none

/-- What was done: how, what came of it, where it was done. -/
structure Rec where
  cls : Nat
  val : Value
  st : St
  op : Oper

/-- Operations one behind the other; up to a panic, if there is one. -/
def aops (run : Runner) (rd : Option Nat) (ops : Array Oper) : List Oper → St → List Rec → Option (List Rec × Option Value × St)
  | [], st, cl => some (cl, none, st)
  | o :: rest, st, cl =>
    match wanted? ops st.tmps o with
    | some true =>
      match aoper tb run rd (evalOp tb.ng st) o st.nz with
      | some (c, .val v, nz) =>
        match putDst st.nt st.tmps o.dst v with
        | some tmps => aops run rd ops rest { st with tmps, nz } (⟨c, v, st, o⟩ :: cl)
        | none => none
      | some (_, .pan v, nz) => some (cl, some v, { st with nz })
      | none => none
    | some false =>
      match putDst st.nt st.tmps o.dst undef with
      | some tmps => aops run rd ops rest { st with tmps } (⟨0, undef, st, o⟩ :: cl)
      | none => none
    | none => none

/-- Equal values. -/
def veq : Nat → Value → Value → Bool
  | 0, _, _ => false
  | n + 1, a, b => match a, b with
    | .bool a, .bool b => a == b
    | .int j a, .int k b => j == k && a == b
    | .string a, .string b => a == b
    | .pointer a, .pointer b => a == b
    | .slice a l c, .slice b k d => a == b && Nat.beq l k && Nat.beq c d
    | .map a, .map b => a == b
    | .nilFunc, .nilFunc => true
    | .nilIface, .nilIface => true
    | .iface t v, .iface u w => Nat.beq t u && veq n v w
    | .func f x y, .func g z w => f == g && veqs n x.toList z.toList && veqs n y.toList w.toList
    | .agg x, .agg y => veqs n x.toList y.toList
    | .tuple x, .tuple y => veqs n x.toList y.toList
    | _, _ => false
where veqs (n : Nat) : List Value → List Value → Bool
  | [], [] => true
  | a :: as, b :: bs => veq n a b && veqs n as bs
  | _, _ => false

/-- Does an operation that looks at memory see the same there? -/
def sees (r : Rec) (m : Mem) : Bool :=
  match aread tb (evalOp tb.ng r.st) r.op m with
  | some v => veq 6 v r.val
  | none => false

/-- Pairs of a row's members and what stands behind them. -/
def withNext (fin : St) : List Rec → List (Rec × Mem)
  | [] => []
  | [r] => [(r, fin.nz.mem)]
  | r :: q :: rest => (r, q.st.nz.mem) :: withNext fin (q :: rest)

/-- The temporaries that an operation names, and the one that its guard is read from. -/
def looks (ops : Array Oper) (o : Oper) : List Tmp :=
  o.dst.toList ++ (o.op.operands.toList.filterMap (fun | .tmp t => some t | _ => none) ++
    (match o.guard with
    | some (j, _) => match ops[j]? with
      | some g => g.dst.toList
      | none => []
    | none => []))

def maskOf : List Nat → Nat
  | [] => 0
  | t :: l => 2 ^ t ||| maskOf l

/-- Of two operations one comes before the other in every order. -/
def ordered (b : Array Nat) (i j : Nat) : Bool := bif Nat.blt i j then (b.getD j 0).testBit i else (b.getD i 0).testBit j

def tempsOk (ops : Array Oper) (b : Array Nat) : Bool :=
  let masks := (ops.toList.map fun o => maskOf (looks ops o)).zipIdx
  ops.toList.zipIdx.all fun (o, j) => match o.dst with
    | none => true
    | some d => masks.all fun (m, i) => Nat.beq i j || !m.testBit d || ordered b i j

/-- The orders that Go may take end. -/
def edgesOk (ops : Array Oper) : Bool :=
  (ops.toList.zipIdx.all fun (o, i) => o.after.toList.all fun e => !Region.binds .text e || Nat.blt e.on i) &&
  (bif Region.departs ops then
    let l := Region.linearise .gc ops 0
    (ops.toList.zipIdx.all fun (o, i) => o.after.toList.all fun e => !Region.binds .gc e || (Nat.blt e.on ops.size && Nat.blt (l.idxOf e.on) (l.idxOf i)))
  else true)

def pairOk (b : Array Nat) (r : Rec) (after : Mem) (j : Nat) (q : Rec) (i : Nat) : Bool :=
  bif Nat.beq q.cls 0 || Nat.beq i j || (Nat.beq q.cls 3 && Nat.blt i j) then true
  else bif ordered b i j then true else Nat.beq q.cls 1 && sees tb q r.st.nz.mem && sees tb q after

def pairsOk (b : Array Nat) (l : List ((Rec × Mem) × Nat)) : Bool :=
  l.all fun p => bif Nat.beq p.1.1.cls 2 then l.all fun q => pairOk tb b p.1.1 p.1.2 p.2 q.1.1 q.2 else true

/-- Of operations that Go may do in either order none changes what another one looks at. -/
def orderOk (ops : Array Oper) (recs : List Rec) (fin : St) : Bool :=
  let b := Region.before ops
  tempsOk ops b && edgesOk ops && pairsOk tb b (withNext fin recs).zipIdx

def aregion (run : Runner) (rd : Option Nat) (ops : Array Oper) (draw : Bool) (st : St) : Option (Ex × St) :=
  match aops tb run rd ops ops.toList st [] with
  | some (recs, none, st') => bif draw then (bif orderOk tb ops recs.reverse st' then some (.normal, st') else none) else some (.normal, st')
  | some (_, some v, st') => bif draw then none else some (.pan v, st')
  | none => none

def aloop (body : St → Option (Ex × St)) : Nat → St → Option (Ex × St)
  | 0, _ => none
  | n + 1, st => match body st with
    | some (.normal, st') => aloop body n st'
    | r => r

/-- A range over a function begins: its record, and the block for deferred calls. -/
def enter? (rd : Option Nat) (fn : FuncId) (params : Array Tmp) (assign body : Code) (st : St) : Option (Nat × Nz) :=
  match (match rd with
    | some l => match getBlk st.nz.mem l with
      | some (.loop _ _ _ _ _ _ _ _ d) => some (d, st.nz.defs, st.nz.mem)
      | _ => none
    | none =>
      let (b, m) := newBlk st.nz.mem (.obj (.deferred (some [])))
      some (b, { target := .collected b, args := #[] } :: st.nz.defs, m)) with
  | none => none
  | some (d, defs, m) =>
    let (l, m) := newBlk m (.loop .ready none fn st.nt st.tmps params assign body d)
    some (l, { st.nz with defs, mem := m })

/-- It ends: the jump that is taken up. -/
def endLoop? (l : Nat) (st : St) : Option (Ex × St) :=
  match getBlk st.nz.mem l with
  | some (.loop state pending fn' nt tmps ps a b d') =>
    match state with
    | .busy => none
    | _ =>
      let st' := { st with nz := { st.nz with mem := setBlk st.nz.mem l (.loop .exhausted pending fn' nt tmps ps a b d') } }
      match pending with
      | none => some (.normal, st')
      | some .ret => some (.ret, st')
      | some (.exit id) => some (.exit id, st')
      | _ => none
  | _ => none

/-- A range over a function. -/
def arange (run : Runner) (rd : Option Nat) (fn : FuncId) (f : Operand) (params : Array Tmp) (assign body : Code) (st : St) : Option (Ex × St) :=
    match enter? rd fn params assign body st with
    | none => none
    | some (l, z) =>
      match target? tb (evalOp tb.ng st) (.value f) [.func (.yield l) #[] #[]] with
      | none => none
      | some t =>
        match run t z.mem with
        | some (.ret _ _, m) => endLoop? l { st with nz := { z with mem := m } }
        | some (.pan v, m) => some (.pan v, { st with nz := { z with mem := m } })
        | none => none

def acode (run : Runner) (rd : Option Nat) (fn : FuncId) (L : Nat) : Code → St → Option (Ex × St)
  | .skip, st => some (.normal, st)
  | .label _, st => some (.normal, st)
  | .region _ ops draw, st => aregion tb run rd ops draw st
  | .seq a b, st => match acode run rd fn L a st with
    | some (.normal, st') => acode run rd fn L b st'
    | r => r
  | .cond c a b, st => match evalOp tb.ng st c with
    | .bool t => bif t then acode run rd fn L a st else acode run rd fn L b st
    | _ => none
  | .block id c, st => match acode run rd fn L c st with
    | some (.exit j, st') => bif Nat.beq j id then some (.normal, st') else some (.exit j, st')
    | r => r
  | .loop c, st => aloop (acode run rd fn L c) L st
  | .exit id, st => some (.exit id, st)
  | .ret, st => some (.ret, st)
  | .scope c, st => acode run rd fn L c st
  | .goto _, _ => none
  | .refuse _, _ => none
  | .rangeFunc f params assign body, st => arange tb run rd fn f params assign body st

/-- The deferred calls are made; pan: what the frame panics with, if it does. -/
def unwind? (run : Runner) : Nat → List Deferred → Option Value → Mem → Option (Option Value × Mem)
  | 0, _, _, _ => none
  | _ + 1, [], pan, m => some (pan, m)
  | n + 1, d :: ds, pan, m =>
    match d.target with
    | .collected r => match getBlk m r with
      | some (.obj (.deferred (some calls))) => unwind? run n (calls ++ ds) pan (setBlk m r (.obj (.deferred none)))
      | _ => none
    | .fn (.func g) cap => match run (.dfn g (d.args.toList ++ cap.toList) pan) m with
      | some (.ret _ recd, m) => unwind? run n ds (bif recd then none else pan) m
      | some (.pan v, m) => match pan with
        | none => unwind? run n ds (some v) m
        | some _ => none
      | none => none
    | _ => none

def result? (tmps : T Value) (m : Mem) : ResultVar → Option Value
  | .tmp t => some (match tmps.get t with | some v => v | none => undef)
  | .cell a t => match tmps.get a with
    | some (.pointer (some p)) => load? tb t p m
    | _ => none

def resultList? (tmps : T Value) (m : Mem) : List ResultVar → Option (List Value)
  | [] => some []
  | r :: rs => match result? tb tmps m r with
    | none => none
    | some v => match resultList? tmps m rs with
      | none => none
      | some vs => some (v :: vs)

def results? (fn : Func) (tmps : T Value) (m : Mem) : Option Value :=
  match resultList? tb tmps m fn.results.toList with
  | some [v] => some v
  | some vs => some (.tuple vs.toArray)
  | none => none

/-- Functions without a body. -/
def aext (fn : Func) (args : List Value) (m : Mem) : Option (Value × Mem) :=
  bif fn.origin == "" then
    bif fn.name == "internal/bytealg.IndexByteString" then
      match args with
      | [.string s, .int .u8 c] => some (.int .i64 (match (List.range s.size).find? fun i => s[i]! == c.toNat.toUInt8 with | some i => (i : Int) | none => -1), m)
      | _ => none
    else bif fn.name == "internal/abi.NoEscape" then
      match args with
      | [x] => some (x, m)
      | _ => none
    else bif fn.name == "sync/atomic.LoadInt64" then
      match args with
      | [.pointer (some a)] => match readCells m a 1 with
        | some [.int .i64 n] => some (.int .i64 n, m)
        | _ => none
      | _ => none
    else bif fn.name == "sync/atomic.CompareAndSwapInt64" then
      match args with
      | [.pointer (some a), .int .i64 x, .int .i64 y] => match readCells m a 1 with
        | some [.int .i64 n] => bif n == x then
            match writeCells m a [.int .i64 y] with
            | some m' => some (.bool true, m')
            | none => none
          else some (.bool false, m)
        | _ => none
      | _ => none
    else none
  else none

/-- A function is run: pan: what its caller panics with, if it was deferred. -/
def enterBody (run : Runner) (L : Nat) (f : FuncId) (args : List Value) (pan : Option Value) (m : Mem) : Option (Out × Mem) :=
  match tb.fn.get f with
  | none => none
  | some fn => match fn.body with
    | none => match pan with
      | none => match aext fn args m with
        | some (v, m) => some (.ret v false, m)
        | none => none
      | some _ => none
    | some c =>
      match acode tb run none f L c { nt := Nat.max fn.ntmps args.length, tmps := T.nil.fill 0 args, nz := { defs := [], pan, mem := m } } with
      | none => none
      | some (ex, st) =>
        match (match ex with | .normal | .ret => some none | .pan v => some (some v) | .exit _ => none) with
        | none => none
        | some mode =>
          match unwind? run 1000 st.nz.defs mode st.nz.mem with
          | none => none
          | some (none, m) => match results? tb fn st.tmps m with
            | some v => some (.ret v (pan.isSome && st.nz.pan.isNone), m)
            | none => none
          | some (some v, m) => match pan with
            | none => some (.pan v, m)
            | some _ => none

/-- A function is run, or what it tells is known. -/
def enterFn (run : Runner) (L : Nat) (f : FuncId) (args : List Value) (pan : Option Value) (m : Mem) : Option (Out × Mem) :=
  match pan with
  | some _ => enterBody tb run L f args pan m
  | none => match tb.sm f args m with
    | some (v, m) => some (.ret v false, m)
    | none => enterBody tb run L f args none m

/-- A round of a range over a function. -/
def roundFn (run : Runner) (L : Nat) (l : Nat) (args : List Value) (m : Mem) : Option (Out × Mem) :=
  match getBlk m l with
  | some (.loop .ready _ fn nt tmps params assign body _) =>
    bif Nat.beq args.length params.size then
      let tmps := (params.toList.zip args).foldl (fun t (p : Tmp × Value) => bif Nat.blt p.1 nt then t.set p.1 p.2 else t) tmps
      match acode tb run (some l) fn L assign { nt, tmps, nz := { defs := [], pan := none, mem := m } } with
      | some (.normal, st) =>
        match getBlk st.nz.mem l with
        | some (.loop .ready pe fn' nt' t' ps a' b' d') =>
          match acode tb run (some l) fn L body { st with nz := { st.nz with mem := setBlk st.nz.mem l (.loop .busy pe fn' nt' t' ps a' b' d') } } with
          | some (ex, st) =>
            match (match ex with | .normal => some none | .ret => some (some Code.ret) | .exit id => some (some (Code.exit id)) | .pan _ => none) with
            | none => none
            | some jump =>
              match getBlk st.nz.mem l with
              | some (.loop _ _ fn' nt' t' ps a' b' d') =>
                some (.ret (.bool jump.isNone) false, setBlk st.nz.mem l (.loop (if jump.isNone then .ready else .done) jump fn' nt' t' ps a' b' d'))
              | _ => none
          | none => none
        | _ => none
      | _ => none
    else none
  | _ => none

def runFn (L : Nat) : Nat → Runner
  | 0, _, _ => none
  | n + 1, .fn f args, m => enterFn tb (runFn L n) L f args none m
  | n + 1, .dfn f args pan, m => enterFn tb (runFn L n) L f args pan m
  | n + 1, .round l args, m => roundFn tb (runFn L n) L l args m
end
end Go.Ab
