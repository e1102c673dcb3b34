/- Abstract values, states and the verification conditions of Go code: definitions alone. -/
import Derived.Calls
import Derived.Below
import Derived.StillTail
set_option linter.all false
namespace Go.Abs

/-- An abstract value. -/
inductive AV where
  | int (n : Int)
  | bool (b : Bool)
  | sc (v : Value)
  | nils
  | undef
  | lst (es : List (List AV))
  | sl (n tip off len : Nat)
  | ptr (n tip i j : Nat)
  | iptr (cs : List AV)
  | agg (cs : List AV)
  | tup (vs : List AV)
  | fn (f : Fn) (first captured : List AV)
  deriving Inhabited

abbrev Cells := List AV

structure Blk where
  k : Nat
  es : List Cells

abbrev Heap := Nat → Option Blk

/-- What is asked of a type: its kind, is it a struct or an array, its cells, its bytes, its zero's cells, its fields (offset, type), a slice's element type. -/
inductive TK where
  | int (k : IntKind) | bool | slice | struct | other
  deriving DecidableEq, Inhabited

structure TI where
  kind : TK
  agg : Bool
  size : Nat
  bytes : Nat
  zero : Cells
  fields : List (Nat × Nat)
  elem : Nat
  deriving Inhabited

abbrev Tab := Nat → TI

structure AS where
  env : Nat → AV
  heap : Heap
  nx : Nat
  N : Nat

def kindOf : Option TypeDesc → TK
  | some (.int k) => .int k
  | some .bool => .bool
  | some (.slice _) => .slice
  | some (.struct _) => .struct
  | _ => .other

/-- A constant of the program. -/
def ofConst : Value → AV
  | .int .i64 n => .int n
  | .bool b => .bool b
  | .slice none 0 0 => .nils
  | v => .sc v

def AV.cells : AV → Cells
  | .agg cs => cs
  | v => [v]

def AV.isCell : AV → Bool
  | .agg _ | .tup _ | .undef => false
  | .sc (.agg _) | .sc (.tuple _) => false
  | _ => true

/-- The value can be laid into cells. -/
def AV.storable (x : AV) : Bool := x.cells.all AV.isCell

/-- What the program's table says of a type. -/
def tiOf (P : Program) (t : Nat) : TI where
  kind := kindOf (P.underlying t)
  agg := match P.underlying t with | some (.struct _) | some (.array _ _) => true | _ => false
  size := match P.info? t with | some i => i.size | none => 0
  bytes := match P.info? t with | some i => i.bytes | none => 0
  zero := match P.info? t with | some i => (match i.zero with | some v => v.cells.toList.map ofConst | none => []) | none => []
  fields := match P.underlying t with | some (.struct fs) => fs.toList.map fun f => (f.offset, f.type) | _ => []
  elem := match P.underlying t with | some (.slice e) => e | some (.array _ e) => e | _ => 0

def lget {α : Type} [Inhabited α] : List (Nat × α) → Nat → α
  | [], _ => default
  | (k, v) :: r, t => if t = k then v else lget r t

def lset {α : Type} : List (Nat × α) → Nat → α → List (Nat × α)
  | [], t, v => [(t, v)]
  | (k, u) :: r, t, v => if t = k then (k, v) :: r else (k, u) :: lset r t v

instance : Inhabited (Option Blk) := ⟨none⟩

/-- Environments and heaps in the form of lists. -/
def E : List (Nat × AV) → Nat → AV
  | [], _ => .undef
  | (k, v) :: r, t => if t = k then v else E r t

def Hp : List (Nat × Blk) → Heap
  | [], _ => none
  | (k, v) :: r, t => if t = k then some v else Hp r t

def upd {α : Type} (f : Nat → α) (t : Nat) (v : α) : Nat → α := fun s => if s = t then v else f s

def AS.put (A : AS) (d : Option Tmp) (v : AV) : AS :=
  match d with
  | some d => { A with env := upd A.env d v }
  | none => A

def AS.hput (A : AS) (n : Nat) (b : Blk) : AS := { A with heap := upd A.heap n (some b) }

def AS.alloc (A : AS) (b : Blk) : AS := { A with heap := upd A.heap A.nx (some b), nx := A.nx + 1 }

def AS.ev (A : AS) : Operand → AV
  | .tmp t => A.env t
  | .const v => ofConst v
  | .global g => .sc (.pointer (some ⟨g, 0, none⟩))
  | .func f => .fn (.func f) [] []

def InR (n : Int) : Prop := -9223372036854775808 ≤ n ∧ n ≤ 9223372036854775807

/-- Shifts and the bits in common, as the model reckons them. -/
def shlI (a b : Int) : Int := IntKind.i64.wrap (a * 2 ^ (min b.toNat IntKind.i64.bits))
def shrI (a b : Int) : Int := a.fdiv (2 ^ (min b.toNat IntKind.i64.bits))
def andI (a b : Int) : Int := IntKind.i64.wrap ((BitVec.ofInt IntKind.i64.bits a &&& BitVec.ofInt IntKind.i64.bits b).toNat : Int)
def abin (kd : TK) (op : BinOp) (x y : AV) (k : AV → Prop) : Prop :=
  match op, x, y with
  | .add, .int a, .int b => InR (a + b) ∧ k (.int (a + b))
  | .sub, .int a, .int b => InR (a - b) ∧ k (.int (a - b))
  | .mul, .int a, .int b => InR (a * b) ∧ k (.int (a * b))
  | .eql, .int a, .int b => k (.bool (decide (a = b)))
  | .neq, .int a, .int b => k (.bool (!decide (a = b)))
  | .lss, .int a, .int b => k (.bool (decide (a < b)))
  | .leq, .int a, .int b => k (.bool (decide (a ≤ b)))
  | .gtr, .int a, .int b => k (.bool (decide (b < a)))
  | .geq, .int a, .int b => k (.bool (decide (b ≤ a)))
  | .shl, .int a, .int b => 0 ≤ b ∧ k (.int (shlI a b))
  | .shr, .int a, .int b => 0 ≤ b ∧ k (.int (shrI a b))
  | .and, .int a, .int b => k (.int (andI a b))
  | .rem, .int a, .int b => b ≠ 0 ∧ k (.int (a.tmod b))
  | .quo, .int a, .int b => (b ≠ 0 ∧ InR (a.tdiv b)) ∧ k (.int (a.tdiv b))
  | .eql, .bool a, .bool b => kd = .bool ∧ k (.bool (a == b))
  | .neq, .bool a, .bool b => kd = .bool ∧ k (.bool (!(a == b)))
  | _, _, _ => False

/-- A slice is asked whether it is nil: where it has no element, both answers are met. -/
def abinN (kd : TK) (op : BinOp) (x y : AV) (k : AV → Prop) : Prop :=
  match op, x, y with
  | .eql, .lst es, .nils => kd = .slice ∧ ∀ b : Bool, (es.length ≠ 0 → b = false) → k (.bool b)
  | .eql, .nils, .nils => kd = .slice ∧ k (.bool true)
  | op, x, y => abin kd op x y k

/-- The negation, as int wraps. -/
def wneg (a : Int) : Int := if a = -9223372036854775808 then a else -a

def aun (op : UnOp) (x : AV) (k : AV → Prop) : Prop :=
  match op, x with
  | .not, .bool b => k (.bool (!b))
  | .neg, .int a => InR a ∧ k (.int (wneg a))
  | _, _ => False

def pickv (t : Bool) (a b : AV) : AV := if t then a else b

def apick (c a b : AV) (k : AV → Prop) : Prop :=
  match c with
  | .bool t => k (pickv t a b)
  | _ => False

/-- The value that some cells begin with: a struct's of so many cells, or the first cell's. -/
def acells (agg : Bool) (size : Nat) (cs : Cells) (k : AV → Prop) : Prop :=
  match agg, cs with
  | true, cs => size ≤ cs.length ∧ k (.agg (cs.take size))
  | false, c :: _ => size = 1 ∧ k c
  | false, [] => False

def aloadE (agg : Bool) (size j : Nat) (e : Option Cells) (k : AV → Prop) : Prop :=
  match e with
  | some e => acells agg size (e.drop j) k
  | none => False

def aloadB (agg : Bool) (size tip i j : Nat) (b : Option Blk) (k : AV → Prop) : Prop :=
  match b with
  | some b => b.es.length = tip ∧ aloadE agg size j b.es[i]? k
  | none => False

def aload (T : Tab) (A : AS) (t : Nat) (p : AV) (k : AV → Prop) : Prop :=
  match p with
  | .iptr cs => acells (T t).agg (T t).size cs k
  | .ptr n tip i j => aloadB (T t).agg (T t).size tip i j (A.heap n) k
  | _ => False

/-- A name that is alive, at this version. -/
def alive (b : Option Blk) (tip : Nat) (v : AV) (k : AV → Prop) : Prop :=
  match b with
  | some b => b.es.length = tip ∧ k v
  | none => False

def aliveK (b : Option Blk) (tip size : Nat) (v : AV) (k : AV → Prop) : Prop :=
  match b with
  | some b => (b.es.length = tip ∧ b.k = size) ∧ k v
  | none => False

def afieldAddr (hp : Heap) (f : Option (Nat × Nat)) (x : AV) (k : AV → Prop) : Prop :=
  match f, x with
  | some (off, _), .iptr cs => k (.iptr (cs.drop off))
  | some (off, _), .ptr n tip i j => alive (hp n) tip (.ptr n tip i (j + off)) k
  | _, _ => False

def afield (T : Tab) (f : Option (Nat × Nat)) (x : AV) (k : AV → Prop) : Prop :=
  match f, x with
  | some (off, t), .agg cs => acells (T t).agg (T t).size (cs.drop off) k
  | _, _ => False

def aidx (size : Nat) (e : Option Cells) (k : AV → Prop) : Prop :=
  match e with
  | some e => e.length = size ∧ k (.iptr e)
  | none => False

def aindexAddr (T : Tab) (A : AS) (t : Nat) (x i : AV) (k : AV → Prop) : Prop :=
  match x, i with
  | .lst es, .int i => 0 ≤ i ∧ aidx (T (T t).elem).size es[i.toNat]? k
  | .sl n tip off len, .int i => (0 ≤ i ∧ i < len) ∧ aliveK (A.heap n) tip (T (T t).elem).size (.ptr n tip (off + i.toNat) 0) k
  | _, _ => False

def alen (x : AV) (k : AV → Prop) : Prop :=
  match x with
  | .lst es => k (.int es.length)
  | .sl _ _ _ len => k (.int len)
  | .nils => k (.int 0)
  | _ => False

def aslice (hp : Heap) (size : Nat) (x : AV) (lo hi : Option AV) (k : AV → Prop) : Prop :=
  match x, lo, hi with
  | .lst es, none, some (.int h) => (0 ≤ h ∧ h ≤ es.length ∧ ∀ e ∈ es, e.length = size) ∧ k (.lst (es.take h.toNat))
  | .lst es, some (.int l), none => (0 ≤ l ∧ l ≤ es.length ∧ ∀ e ∈ es, e.length = size) ∧ k (.lst (es.drop l.toNat))
  | .lst es, some (.int l), some (.int h) => (0 ≤ l ∧ l ≤ h ∧ h ≤ es.length ∧ ∀ e ∈ es, e.length = size) ∧ k (.lst ((es.take h.toNat).drop l.toNat))
  | .sl n tip off len, none, some (.int h) => (0 ≤ h ∧ h ≤ len) ∧ aliveK (hp n) tip size (.sl n tip off h.toNat) k
  | .sl n tip off len, some (.int l), none => (0 ≤ l ∧ l ≤ len) ∧ aliveK (hp n) tip size (.sl n tip (off + l.toNat) (len - l.toNat)) k
  | _, _, _ => False

def abuiltin (b : Builtin) (xs : List AV) (k : AV → Prop) : Prop :=
  match b, xs with
  | .len, [x] => alen x k
  | .max, [.int a, .int b] => k (.int (if b > a then b else a))
  | .min, [.int a, .int b] => k (.int (if b < a then b else a))
  | _, _ => False

/-- Some cells with others laid over them from a place on. -/
def aspl (cs : Cells) (off : Nat) (new : Cells) : Cells := cs.take off ++ (new ++ cs.drop (off + new.length))

def abuild (T : Tab) (fs : List (Nat × Nat)) : List (Nat × AV) → Cells → (AV → Prop) → Prop
  | [], cs, k => k (.agg cs)
  | (i, x) :: r, cs, k => match fs[i]? with
    | some (off, ft) => (x.cells.length = (T ft).size ∧ x.storable = true) ∧ abuild T fs r (aspl cs off x.cells) k
    | none => False

def anil (hp : Heap) (x : AV) (k : AV → Prop) : Prop :=
  match x with
  | .iptr cs => k (.iptr cs)
  | .ptr n tip i j => alive (hp n) tip (.ptr n tip i j) k
  | .fn (.func g) a c => k (.fn (.func g) a c)
  | _ => False

def aextract (x : AV) (i : Nat) (k : AV → Prop) : Prop :=
  match x with
  | .tup vs => match vs[i]? with
    | some v => k v
    | none => False
  | _ => False

/-- An operation that leaves memory alone. -/
def aev (T : Tab) (op : Op) (A : AS) (k : AV → Prop) : Prop :=
  match op with
  | .move x | .assign x => k (A.ev x)
  | .pick c a b => apick (A.ev c) (A.ev a) (A.ev b) k
  | .binOp op t x y _ => abin (T t).kind op (A.ev x) (A.ev y) k
  | .unOp op _ x => aun op (A.ev x) k
  | .load t a => aload T A t (A.ev a) k
  | .fieldAddr s x f => afieldAddr A.heap (T s).fields[f]? (A.ev x) k
  | .field s x f => afield T (T s).fields[f]? (A.ev x) k
  | .indexAddr t x i => aindexAddr T A t (A.ev x) (A.ev i) k
  | .slice t x lo hi none => aslice A.heap (T (T t).elem).size (A.ev x) (lo.map A.ev) (hi.map A.ev) k
  | .nilCheck x => anil A.heap (A.ev x) k
  | .extract x i => aextract (A.ev x) i k
  | .makeFunc f a c => k (.fn f (a.toList.map A.ev) (c.toList.map A.ev))
  | .build t ps => abuild T (T t).fields (ps.toList.map fun p => (p.1, A.ev p.2)) (T t).zero k
  | .call { callee := .builtin b, args, .. } => abuiltin b (args.toList.map A.ev) k
  | _ => False

/-! ### What abstract values stand for -/

/-- The concrete side: the blocks that are never written again, the block of each name, the world. -/
structure Ctx where
  I : Nat → Prop
  β : Nat → Option Nat
  w : World

def bsize (w : World) (b : Nat) : Nat :=
  match w.heap[b]? with
  | some (.cells c _ _) => c.size
  | _ => 0

mutual
/-- A value in which no name stands. -/
def AV.pure : AV → Bool
  | .sl .. | .ptr .. => false
  | .lst es => AV.pureE es
  | .iptr cs | .agg cs | .tup cs => AV.pureL cs
  | .fn _ a c => AV.pureL a && AV.pureL c
  | _ => true
def AV.pureL : List AV → Bool
  | [] => true
  | a :: as => AV.pure a && AV.pureL as
def AV.pureE : List (List AV) → Bool
  | [] => true
  | e :: es => AV.pureL e && AV.pureE es
end

mutual
def V (C : Ctx) (h : Heap) (nx : Nat) : AV → Value → Prop
  | .int n, v => v = .int .i64 n
  | .bool b, v => v = .bool b
  | .sc u, v => v = u
  | .nils, v => v = .slice none 0 0
  | .undef, _ => True
  | .lst es, v => ∃ a c, v = .slice a es.length c ∧ (es.length ≤ c ∧ AV.pureE es = true) ∧ (es.length ≠ 0 → ∃ b off k, a = some ⟨b, off, none⟩ ∧ C.I b ∧ VE C h nx b off k es)
  | .sl n tip off len, v => n < nx ∧ (∃ a cap, v = .slice a len cap) ∧ ∀ k es, h n = some ⟨k, es⟩ → tip ≤ es.length ∧ (tip = es.length → off + len ≤ tip ∧
      ((C.β n = none ∧ v = .slice none 0 0 ∧ off = 0 ∧ len = 0) ∨ ∃ b cap o, C.β n = some b ∧ v = .slice (some ⟨b, o, none⟩) len cap ∧ (cap ≠ 0 → o = off * k) ∧ len ≤ cap ∧ (off + cap) * k ≤ bsize C.w b))
  | .ptr n tip i j, v => n < nx ∧ (∃ a, v = .pointer a) ∧ ∀ k es, h n = some ⟨k, es⟩ → tip ≤ es.length ∧ (tip = es.length → ∃ b, C.β n = some b ∧ v = .pointer (some ⟨b, i * k + j, none⟩))
  | .iptr cs, v => ∃ b off, v = .pointer (some ⟨b, off, none⟩) ∧ (C.I b ∧ AV.pureL cs = true) ∧ VC C h nx b off cs
  | .agg cs, v => ∃ vs, v = .agg ⟨vs⟩ ∧ Vs C h nx cs vs
  | .tup cs, v => ∃ vs, v = .tuple ⟨vs⟩ ∧ Vs C h nx cs vs
  | .fn f a c, v => ∃ vs us, v = .func f ⟨vs⟩ ⟨us⟩ ∧ Vs C h nx a vs ∧ Vs C h nx c us
def Vs (C : Ctx) (h : Heap) (nx : Nat) : List AV → List Value → Prop
  | [], vs => vs = []
  | a :: as, vs => ∃ v r, vs = v :: r ∧ V C h nx a v ∧ Vs C h nx as r
/-- Cells of a block, from an offset on. -/
def VC (C : Ctx) (h : Heap) (nx : Nat) (b off : Nat) : List AV → Prop
  | [] => True
  | a :: as => (∃ v, C.w.cell? ⟨b, off, none⟩ = some v ∧ V C h nx a v) ∧ VC C h nx b (off + 1) as
/-- Elements of a block, k cells each. -/
def VE (C : Ctx) (h : Heap) (nx : Nat) (b off k : Nat) : List (List AV) → Prop
  | [] => True
  | e :: es => e.length = k ∧ VC C h nx b off e ∧ VE C h nx b (off + k) k es
end

/-- The memory of the names. -/
structure HeapRel (C : Ctx) (h : Heap) (nx : Nat) : Prop where
  new : ∀ n, nx ≤ n → h n = none
  blk : ∀ n k es, h n = some ⟨k, es⟩ → 0 < k ∧ ((C.β n = none ∧ es = []) ∨ ∃ b c ty, C.β n = some b ∧ C.w.heap[b]? = some (.cells c ty (0, 0)) ∧ ¬ C.I b ∧ VE C h nx b 0 k es)
  inj : ∀ n m b, h n ≠ none → h m ≠ none → C.β n = some b → C.β m = some b → n = m
  old : ∀ b, C.I b → b < C.w.heap.size

def owned (C : Ctx) (h : Heap) (b : Nat) : Prop := ∃ n, h n ≠ none ∧ C.β n = some b

/-- How the concrete side may go on. -/
structure Step (C : Ctx) (h : Heap) (nx : Nat) (C' : Ctx) (h' : Heap) (nx' : Nat) : Prop where
  le : nx ≤ nx'
  imm : ∀ b, C.I b → C'.I b
  imm' : ∀ b, C'.I b → C.I b ∨ C.w.heap.size ≤ b ∨ owned C h b
  names : ∀ n, n < nx → ∀ k es', h' n = some ⟨k, es'⟩ → ∃ es, h n = some ⟨k, es⟩ ∧ es.length ≤ es'.length ∧ (es.length = es'.length → C'.β n = C.β n)
  owned : ∀ b, owned C' h' b → owned C h b ∨ C.w.heap.size ≤ b
  os : C'.w.os = C.w.os
  tape : C'.w.tape = C.w.tape
  output : C'.w.output = C.w.output ∧ C.w.drawn ≤ C'.w.drawn
  size : C.w.heap.size ≤ C'.w.heap.size
  frame : ∀ b, b < C.w.heap.size → ¬ Abs.owned C h b → C'.w.heap[b]? = C.w.heap[b]?
  sizes : ∀ b, b < C.w.heap.size → bsize C'.w b = bsize C.w b

/-- A call, as the verification conditions see it. -/
def CallsA (P : Program) (f : FuncId) (args : List AV) (h : Heap) (nx : Nat) (K : AV → Heap → Nat → Prop) : Prop :=
  (∃ fn, P.funcs[f]? = some fn ∧ fn.body.isSome = true ∧ (fn.name == "runtime.NumGoroutine") = false) ∧
  ∀ C vs, HeapRel C h nx → Vs C h nx args vs → Calls P f ⟨vs⟩ C.w fun e w' =>
    ∃ r h' nx' C' v, e = .returned v ∧ K r h' nx' ∧ V C' h' nx' r v ∧ HeapRel C' h' nx' ∧ Step C h nx C' h' nx' ∧ C'.w = w'

structure Rel (C : Ctx) (A : AS) (a : Act) : Prop where
  defers : a.defers = []
  size : a.tmps.size = A.N
  env : ∀ t, V C A.heap A.nx (A.env t) (a.tmps.getD t undef)
  heap : HeapRel C A.heap A.nx

/-- What a piece of code comes to. -/
def AWp (P : Program) (c : Code) (A : AS) (K : Exit → AS → Prop) : Prop :=
  ∀ C a, Rel C A a → c.wp P (fun e a' w' => ∃ A' C', K e A' ∧ Rel C' A' a' ∧ C'.w = w' ∧ Step C A.heap A.nx C' A'.heap A'.nx ∧ A'.N = A.N) a C.w

/-! ### Operations that turn memory, and calls -/

def ablk (b : Option Blk) (k : Blk → Prop) : Prop :=
  match b with
  | some b => k b
  | none => False

def aelems (A : AS) (x : AV) (k : List Cells → Prop) : Prop :=
  match x with
  | .lst es => k es
  | .nils => k []
  | .sl n tip off len => ablk (A.heap n) fun b => b.es.length = tip ∧ k ((b.es.drop off).take len)
  | _ => False

/-- The greatest length of a slice that is made. -/
def roomy (n : Nat) : Prop := n ≤ 1099511627776

def aappNil (size : Nat) (A : AS) (dst : Option Tmp) (K : AS → Prop) (xs : List Cells) : Prop :=
  match xs with
  | [] => K (A.put dst .nils)
  | x :: xs => (roomy (xs.length + 1) ∧ ∀ e ∈ x :: xs, e.length = size ∧ e.all AV.isCell = true) ∧
      K ((A.alloc ⟨size, x :: xs⟩).put dst (.sl A.nx (xs.length + 1) 0 (xs.length + 1)))

def aappBlk (size : Nat) (A : AS) (n tip off len : Nat) (dst : Option Tmp) (K : AS → Prop) (xs : List Cells) (b : Blk) : Prop :=
  (off = 0 ∧ len = tip ∧ b.es.length = tip ∧ b.k = size ∧ roomy (tip + xs.length) ∧ ∀ e ∈ xs, e.length = size ∧ e.all AV.isCell = true) ∧
    K ((A.hput n ⟨size, b.es ++ xs⟩).put dst (.sl n (tip + xs.length) 0 (tip + xs.length)))

def aappTo (size : Nat) (A : AS) (s : AV) (dst : Option Tmp) (K : AS → Prop) (xs : List Cells) : Prop :=
  match s with
  | .nils => aappNil size A dst K xs
  | .sl n tip off len => ablk (A.heap n) (aappBlk size A n tip off len dst K xs)
  | _ => False

def astoreE (size : Nat) (A : AS) (n i j : Nat) (x : Cells) (dst : Option Tmp) (K : AS → Prop) (b : Blk) (e : Option Cells) : Prop :=
  match e with
  | some e => (x.length = size ∧ j + size ≤ e.length ∧ x.all AV.isCell = true) ∧ K ((A.hput n ⟨b.k, b.es.set i (aspl e j x)⟩).put dst (.tup []))
  | none => False

def astoreB (size : Nat) (A : AS) (n tip i j : Nat) (x : Cells) (dst : Option Tmp) (K : AS → Prop) (b : Blk) : Prop :=
  b.es.length = tip ∧ astoreE size A n i j x dst K b b.es[i]?

def astore (size : Nat) (A : AS) (p x : AV) (dst : Option Tmp) (K : AS → Prop) : Prop :=
  match p with
  | .ptr n tip i j => ablk (A.heap n) (astoreB size A n tip i j x.cells dst K)
  | _ => False

/-! What stands behind an operation, by name: so that simp looks behind it only where it is reached. -/
def kput (dst : Option Tmp) (A : AS) (K : AS → Prop) (v : AV) : Prop := K (A.put dst v)
def kcall (dst : Option Tmp) (A : AS) (K : AS → Prop) (r : AV) (h : Heap) (nx : Nat) : Prop := K (AS.put { A with heap := h, nx := nx } dst r)

def acall (P : Program) (f : AV) (args : List AV) (dst : Option Tmp) (A : AS) (K : AS → Prop) : Prop :=
  match f with
  | .fn (.func g) a c => CallsA P g (a ++ (args ++ c)) A.heap A.nx (kcall dst A K)
  | _ => False

def amake (size : Nat) (zero : Cells) (A : AS) (l : AV) (dst : Option Tmp) (K : AS → Prop) : Prop :=
  match l with
  | .int l => (0 ≤ l ∧ roomy l.toNat) ∧ K ((A.alloc ⟨size, List.replicate l.toNat zero⟩).put dst (.sl A.nx l.toNat 0 l.toNat))
  | _ => False

/-- Elements laid over with zeros. -/
def aclearB (zero : Cells) (A : AS) (n tip off len : Nat) (dst : Option Tmp) (K : AS → Prop) (b : Blk) : Prop :=
  (b.es.length = tip ∧ b.k = zero.length ∧ zero.all AV.isCell = true) ∧ K ((A.hput n ⟨b.k, b.es.take off ++ (List.replicate len zero ++ b.es.drop (off + len))⟩).put dst (.tup []))

def aclear (zero : Cells) (A : AS) (s : AV) (dst : Option Tmp) (K : AS → Prop) : Prop :=
  match s with
  | .sl n tip off len => ablk (A.heap n) (aclearB zero A n tip off len dst K)
  | _ => False

/-- A slice of given elements, laid to rest at once. -/
def aslit (T : Tab) (t : Nat) (xs : List AV) (k : AV → Prop) : Prop :=
  ((∀ x ∈ xs, x.cells.length = (T (T t).elem).size ∧ x.storable = true) ∧ AV.pureE (xs.map AV.cells) = true) ∧ k (.lst (xs.map AV.cells))

/-- An operation of any kind. -/
def aop (P : Program) (T : Tab) (dst : Option Tmp) (op : Op) (K : AS → Prop) (A : AS) : Prop :=
  match op with
  | .alloc t => K ((A.alloc ⟨(T t).size, [(T t).zero]⟩).put dst (.ptr A.nx 1 0 0))
  | .box t x => ((A.ev x).cells.length = (T t).size ∧ (A.ev x).storable = true) ∧ K ((A.alloc ⟨(T t).size, [(A.ev x).cells]⟩).put dst (.ptr A.nx 1 0 0))
  | .buildSlice t len ps => match ps.toList with
    | [] => K ((A.alloc ⟨(T (T t).elem).size, []⟩).put dst (.sl A.nx len 0 len))
    | p :: r => aslit T t ((p :: r).map fun p => A.ev p.2) (kput dst A K)
  | .makeSlice t l _ => amake (T (T t).elem).size (T (T t).elem).zero A (A.ev l) dst K
  | .store t p x => astore (T t).size A (A.ev p) (A.ev x) dst K
  | .call { callee := .builtin .append, args, argTypes } => match args.toList, argTypes.toList with
    | [s, x], t :: _ => aelems A (A.ev x) (aappTo (T (T t).elem).size A (A.ev s) dst K)
    | _, _ => False
  | .call { callee := .builtin .clear, args, argTypes } => match args.toList, argTypes.toList with
    | [s], t :: _ => aclear (T (T t).elem).zero A (A.ev s) dst K
    | _, _ => False
  | .binOp op t x y _ => abinN (T t).kind op (A.ev x) (A.ev y) (kput dst A K)
  | .call { callee := .value f, args, .. } => acall P (A.ev f) (args.toList.map A.ev) dst A K
  | op => aev T op A (kput dst A K)

/-- Whether a guarded operation is carried out. -/
inductive Want where
  | yes | no | ask (t : Tmp) (b want : Bool) | bad

def awantV (want : Bool) (t : Tmp) : AV → Want
  | .bool b => .ask t b want
  | .tup _ => .no
  | _ => .bad

def awantD (want : Bool) (A : AS) : Option (Option Tmp) → Want
  | some (some t) => awantV want t (A.env t)
  | _ => .bad

def awant (ds : List (Option Tmp)) (g : Option (Nat × Bool)) (A : AS) : Want :=
  match g with
  | none => .yes
  | some (j, want) => awantD want A ds[j]?

def aask (t : Tmp) (b want : Bool) (yes no : AS → Prop) (A : AS) : Prop :=
  match b, want with
  | true, true => yes (A.put (some t) (.bool true))
  | false, false => yes (A.put (some t) (.bool false))
  | true, false => no (A.put (some t) (.bool true))
  | false, true => no (A.put (some t) (.bool false))

/-- An operation that is passed by leaves nothing in its slot. -/
def askip (dst : Option Tmp) (K : AS → Prop) (A : AS) : Prop := K (A.put dst (.tup []))

def awhen (w : Want) (yes no : AS → Prop) (A : AS) : Prop :=
  match w with
  | .yes => yes A
  | .no => no A
  | .ask t b want => aask t b want yes no A
  | .bad => False

def aops (P : Program) (T : Tab) (ds : List (Option Tmp)) (K : AS → Prop) : List Oper → AS → Prop
  | [], A => K A
  | o :: r, A => awhen (awant ds o.guard A) (aop P T o.dst o.op (aops P T ds K r)) (askip o.dst (aops P T ds K r)) A

/-- A call that leaves the names alone and hands back r. -/
def CallsQ (P : Program) (f : FuncId) (args : List AV) (h : Heap) (nx : Nat) (r : AV) : Prop :=
  CallsA P f args h nx fun r' h' nx' => r' = r ∧ h' = h ∧ nx' = nx

def acallQ (P : Program) (f : AV) (args : List AV) (dst : Option Tmp) (A : AS) (K : AS → Prop) : Prop :=
  match f with
  | .fn (.func g) a c => ∃ r, CallsQ P g (a ++ (args ++ c)) A.heap A.nx r ∧ kput dst A K r
  | _ => False

/-- An operation of a region whose order is drawn: quiet ones alone. -/
def aopQ (P : Program) (T : Tab) (dst : Option Tmp) (op : Op) (K : AS → Prop) (A : AS) : Prop :=
  match op with
  | .buildSlice t _ ps => aslit T t (ps.toList.map fun p => A.ev p.2) (kput dst A K)
  | .call { callee := .value f, args, .. } => acallQ P (A.ev f) (args.toList.map A.ev) dst A K
  | op => aev T op A (kput dst A K)

def aopsQ (P : Program) (T : Tab) (ds : List (Option Tmp)) (K : AS → Prop) : List Oper → AS → Prop
  | [], A => K A
  | o :: r, A => awhen (awant ds o.guard A) (aopQ P T o.dst o.op (aopsQ P T ds K r)) (askip o.dst (aopsQ P T ds K r)) A

/-- An operation that may turn memory. -/
def isT : Op → Bool
  | .call { callee := .value _, .. } => true
  | .call { callee := .builtin .append, .. } => true
  | .alloc _ | .box .. | .store .. => true
  | _ => false

/-- A call with one outcome. -/
def acallD (P : Program) (f : AV) (args : List AV) (dst : Option Tmp) (A : AS) (K : AS → Prop) : Prop :=
  match f with
  | .fn (.func g) a c => ∃ r h n, CallsA P g (a ++ (args ++ c)) A.heap A.nx (fun r' h' n' => r' = r ∧ h' = h ∧ n' = n) ∧ kcall dst A K r h n
  | _ => False

/-- An operation of a drawn region in which those that turn memory come in one order: the others look at no memory of the names. -/
def aopM (P : Program) (T : Tab) (dst : Option Tmp) (op : Op) (K : AS → Prop) (A : AS) : Prop :=
  match op with
  | .buildSlice t _ ps => aslit T t (ps.toList.map fun p => A.ev p.2) (kput dst A K)
  | .call { callee := .value f, args, .. } => acallD P (A.ev f) (args.toList.map A.ev) dst A K
  | op => match isT op with
    | true => aop P T dst op K A
    | false => ∃ av, (∀ hp nx, aev T op { A with heap := hp, nx := nx } fun u => u = av) ∧ kput dst A K av

def aopsM (P : Program) (T : Tab) (ds : List (Option Tmp)) (K : AS → Prop) : List Oper → AS → Prop
  | [], A => K A
  | o :: r, A => awhen (awant ds o.guard A) (aopM P T o.dst o.op (aopsM P T ds K r)) (askip o.dst (aopsM P T ds K r)) A

/-- A pointer into one name. -/
def onName (n : Nat) : AV → Prop
  | .ptr m _ _ _ => m = n
  | _ => False
instance : Nonempty Blk := ⟨⟨0, []⟩⟩
/-- A quiet call, whatever one name's block holds. -/
def acallS (P : Program) (n0 : Nat) (f : AV) (args : List AV) (dst : Option Tmp) (A : AS) (K : AS → Prop) : Prop :=
  match f with
  | .fn (.func g) a c => ∃ r, (∀ b : Blk, CallsQ P g (a ++ (args ++ c)) (upd A.heap n0 (some b)) A.nx r) ∧ kput dst A K r
  | _ => False
/-- An operation of a drawn region in which all that turns memory stores into one name: the others look at no memory of that name. -/
def aopS (P : Program) (T : Tab) (n0 : Nat) (dst : Option Tmp) (op : Op) (K : AS → Prop) (A : AS) : Prop :=
  match op with
  | .store t p x => onName n0 (A.ev p) ∧ aop P T dst (.store t p x) K A
  | .call { callee := .value f, args, .. } => acallS P n0 (A.ev f) (args.toList.map A.ev) dst A K
  | op => ∃ av, (∀ b : Blk, aev T op { A with heap := upd A.heap n0 (some b) } fun u => u = av) ∧ kput dst A K av
def aopsS (P : Program) (T : Tab) (n0 : Nat) (ds : List (Option Tmp)) (K : AS → Prop) : List Oper → AS → Prop
  | [], A => K A
  | o :: r, A => awhen (awant ds o.guard A) (aopS P T n0 o.dst o.op (aopsS P T n0 ds K r)) (askip o.dst (aopsS P T n0 ds K r)) A
/-- The name that a slot points to. -/
def aslotV (K : Nat → Prop) (A : AS) : AV → Prop
  | .ptr n _ _ _ => (A.heap n).isSome = true ∧ K n
  | _ => False

/-- Where the operations begin that a drawn region carries out in one order; 0: what turns memory comes in one order. -/
def tailAt (D : List (Nat × Nat)) (id : Nat) : Option Nat :=
  match D with
  | [] => none
  | (k, n) :: r => if id = k then some n else tailAt r id

def AS.keep (A : AS) (L : List Nat) : AS := { A with env := fun t => if L.contains t then A.env t else .undef }

def kreg (L : List Nat) (K : Exit → AS → Prop) (A : AS) : Prop := K .normal (A.keep L)
/-- A name that one slot points to, laid to rest: written no more. -/
def arestB (t n : Nat) (K : AS → Prop) (A : AS) : Option Blk → Prop
  | some ⟨_, [cs]⟩ => AV.pureL cs = true ∧ K ⟨upd A.env t (.iptr cs), upd A.heap n none, A.nx, A.N⟩
  | _ => False
def arestV (t : Nat) (K : AS → Prop) (A : AS) : AV → Prop
  | .ptr n 1 0 0 => arestB t n K A (A.heap n)
  | _ => False
def arest (t : Nat) (K : AS → Prop) (A : AS) : Prop := arestV t K A (A.env t)
def kregR (t : Nat) (L : List Nat) (K : Exit → AS → Prop) (A : AS) : Prop := arest t (K .normal) (A.keep L)
def kblock (id : Nat) (K : Exit → AS → Prop) : Exit → AS → Prop
  | .exit id', A => if id' = id then K .normal A else K (.exit id') A
  | e, A => K e A

/-- From the one state the other may be gone on from. -/
def Leads (A A' : AS) : Prop := A'.N = A.N ∧ ∀ C a, Rel C A a → ∃ C', Rel C' A' a ∧ C'.w = C.w ∧ Step C A.heap A.nx C' A'.heap A'.nx

/-- The end of a round: on to a state of a loop's head with a smaller measure. -/
def kround {ι : Type} (μ : ι → Nat) (J : ι → AS) (i : ι) (A : AS) : Prop := ∃ i', μ i' < μ i ∧ Leads A (J i')

def kseq (k : AS → Prop) (K : Exit → AS → Prop) : Exit → AS → Prop
  | .normal, A => k A
  | e, A => K e A
def acond (c : AV) (x y : AS → Prop) (A : AS) : Prop :=
  match c with
  | .bool true => x A
  | .bool false => y A
  | _ => False

/-- A loop whose body's condition is W: states J i at its head, a measure on i that every round lowers. -/
def ALoop (W : (Exit → AS → Prop) → AS → Prop) (K : Exit → AS → Prop) (A : AS) : Prop :=
  ∃ (ι : Type) (J : ι → AS) (μ : ι → Nat) (i0 : ι), Leads A (J i0) ∧ ∀ i, W (kseq (kround μ J i) K) (J i)

/-- The verification condition of a piece of code. L: the slots that are read outside the region that writes them. -/
def aw (P : Program) (T : Tab) (D : List (Nat × Nat)) (L : List Nat) : Code → (Exit → AS → Prop) → AS → Prop
  | .skip, K, A => K .normal A
  | .region id ops false, K, A => match tailAt D id with
    | none => aops P T (ops.toList.map (·.dst)) (kreg L K) ops.toList A
    | some t => aops P T (ops.toList.map (·.dst)) (kregR t L K) ops.toList A
  | .region id ops true, K, A => match tailAt D id with
    | none => aopsQ P T (ops.toList.map (·.dst)) (kreg L K) ops.toList A
    | some 0 => aopsM P T (ops.toList.map (·.dst)) (kreg L K) ops.toList A
    | some n => if 1000 ≤ n then aslotV (fun n0 => aopsS P T n0 (ops.toList.map (·.dst)) (kreg L K) ops.toList A) A (A.env (n - 1000)) else aopsQ P T (ops.toList.map (·.dst)) (aops P T (ops.toList.map (·.dst)) (kreg L K) (ops.toList.drop n)) (ops.toList.take n) A
  | .seq x y, K, A => aw P T D L x (kseq (aw P T D L y K) K) A
  | .cond c x y, K, A => acond (A.ev c) (aw P T D L x K) (aw P T D L y K) A
  | .block id c, K, A => aw P T D L c (kblock id K) A
  | .loop c, K, A => ALoop (aw P T D L c) K A
  | .exit id, K, A => K (.exit id) A
  | .ret, K, A => K .ret A
  | _, _, _ => False

/-! ### What the soundness asks of an operation by itself: closed facts on the program's table -/

def typOk (P : Program) (t : Nat) : Bool := (P.info? t).isSome && (P.underlying t).isSome
def elemOk (P : Program) (t : Nat) : Bool :=
  match P.underlying t with
  | some (.slice e) => match P.info? e with
    | some i => decide (0 < i.size) && decide (i.bytes ≤ 128) && (match i.zero with | some z => decide (z.cells.size = i.size) | none => false)
    | none => false
  | _ => false
def varOk (P : Program) (t : Nat) : Bool :=
  match P.info? t with
  | some i => decide (0 < i.size) && (match i.zero with | some z => decide (z.cells.size = i.size) | none => false)
  | none => false
def fieldOk (P : Program) (s f : Nat) : Bool :=
  match P.underlying s with
  | some (.struct fs) => match fs[f]? with
    | some f => typOk P f.type && (match P.info? f.type with | some i => decide (0 < i.size) | none => false)
    | none => false
  | _ => false
def sliceTy (P : Program) (t : Nat) : Bool := match P.underlying t with | some (.slice _) => true | _ => false
def notInt (P : Program) (t : Nat) : Bool := match P.underlying t with | some (.int _) => false | some _ => true | none => false
def sameTmp : Operand → Operand → Bool
  | .tmp a, .tmp b => a == b
  | .const (.int .i64 a), .const (.int .i64 b) => a == b
  | _, _ => false

def opOk (P : Program) (op : Op) : Bool :=
  match op with
  | .load t _ => typOk P t
  | .fieldAddr s _ f => fieldOk P s f
  | .field s _ f => fieldOk P s f
  | .indexAddr t _ _ => elemOk P t
  | .slice t _ _ _ none => elemOk P t
  | .build t ps => (match P.underlying t with | some (.struct fs) => fs.all fun f => typOk P f.type && decide (f.offset + (tiOf P f.type).size ≤ (tiOf P t).size) | _ => false) && varOk P t && ps.all fun p => fieldOk P t p.1
  | .call { callee := .builtin .len, argTypes, .. } => match argTypes[0]? with | some t => sliceTy P t | none => false
  | .call { callee := .builtin .append, argTypes, .. } => match argTypes.toList with
    | [t, u] => elemOk P t && (t == u)
    | _ => false
  | .call { callee := .builtin .clear, argTypes, .. } => match argTypes.toList with
    | [t] => elemOk P t
    | _ => false
  | .alloc t => varOk P t
  | .box t _ => varOk P t
  | .buildSlice t len ps => elemOk P t && decide (len = ps.size) && decide (len ≤ 1000) && (ps.toList.map (·.1) == List.range ps.size) &&
      (match P.underlying t with | some (.slice e) => (match P.info? e with | some i => decide (i.size ≤ 1000) | none => false) | _ => false)
  | .makeSlice t l c => elemOk P t && sameTmp l c
  | .store t _ _ => varOk P t
  | _ => true

/-- Those that turn memory wait, one for another. -/
def tchainB (ops : Array Oper) : Bool :=
  (List.range ops.size).all fun t => (List.range t).all fun s => !(turnsAt ops t && turnsAt ops s) ||
    (List.range t).any fun m => decide (s ≤ m) && turnsAt ops m && Region.waitsFor .any ops t m
where turnsAt (ops : Array Oper) (i : Nat) : Bool := match ops[i]? with
  | some o => isT o.op
  | none => false

def codeOk (P : Program) (D : List (Nat × Nat)) (N : Nat) : Code → Bool
  | .region id ops draw => (!draw || (match tailAt D id with | none => Region.lexB .any ops | some 0 => Region.lexB .any ops && tchainB ops | some n => if 1000 ≤ n then Region.lexB .any ops && tchainB ops else Region.lexTailB .any ops n)) &&
      ops.all fun o => opOk P o.op && (match o.dst with | some d => decide (d < N) | none => true)
  | .seq x y => codeOk P D N x && codeOk P D N y
  | .cond _ x y => codeOk P D N x && codeOk P D N y
  | .block _ c => codeOk P D N c
  | .loop c => codeOk P D N c
  | _ => true

def mkRes : List AV → AV
  | [v] => v
  | vs => .tup vs

/-- What is handed back. -/
def aress (T : Tab) (A : AS) (K : AV → Heap → Nat → Prop) : List ResultVar → List AV → Prop
  | [], acc => K (mkRes acc.reverse) A.heap A.nx
  | .tmp t :: r, acc => aress T A K r (A.env t :: acc)
  | .cell a t :: r, acc => aload T A t (A.env a) fun v => aress T A K r (v :: acc)

def postA (T : Tab) (rs : Array ResultVar) (K : AV → Heap → Nat → Prop) : Exit → AS → Prop
  | .normal, A | .ret, A => aress T A K rs.toList []
  | _, _ => False

def startA (fn : Func) (args : List AV) (h : Heap) (nx : Nat) : AS := ⟨E (args.zipIdx.map fun p => (p.2, p.1)), h, nx, fn.ntmps⟩

end Go.Abs
