/-
  An abstract interpreter for Go code as the model has it, with clean values: no world, private heaps, lists for slices.
  Only definitions stand here; XLiteSound and its parts show that what it computes is what the machine does.
-/
import Derived.RangeFuncIn
import Derived.OrdersIn
import Derived.KernelRfl
namespace Go.Lite

/-- Where immutable memory lies: g: kept for ever; b: borrowed for this call, contents g; n: borrowed, contents borrowed too. -/
inductive Kd where
  | g | b | n
  deriving DecidableEq

/-- Abstract values. -/
inductive AV where
  | any
  | und
  | int (k : IntKind) (n : Int)
  | bool (b : Bool)
  | agg (cs : List AV)
  | tup (vs : List AV)
  | nilp
  | ptr (i s k j : Nat)
  | eptr (kd : Kd) (cs : List AV)
  | nils
  | ro (kd : Kd) (c0 : Bool) (s : Nat) (es : List (List AV))
  | sl (i s lo n : Nat) (cap : Option Nat)
  | nilf
  | fn (f : Fn) (first caps : List AV)
  | yl
  | nili
  | ifc (t : TypeId) (v : AV)
  | nilm
  | mp (i : Nat)

abbrev i64 (n : Int) : AV := .int .i64 n

def AV.cells : AV → List AV
  | .agg cs => cs
  | v => [v]

/-- A block of a private heap: a row of elements of s cells each (flat: no own pointers, nothing borrowed within), or a map. -/
inductive Blk where
  | row (s : Nat) (es : List (List AV)) (flat : Bool)
  | map (kvs : List (AV × AV))

abbrev Heap := List (Option Blk)

def hget (h : Heap) (i : Nat) : Option Blk := (h[i]?).getD none
def hset : Heap → Nat → Option Blk → Heap
  | [], 0, b => [b]
  | [], i + 1, b => none :: hset [] i b
  | _ :: h, 0, b => b :: h
  | x :: h, i + 1, b => x :: hset h i b
def hputs (h : Heap) : Nat → Heap → Heap
  | _, [] => h
  | i, b :: bs => hputs (hset h i b) (i + 1) bs
def hups (h : Heap) : List (Nat × Option Blk) → Heap
  | [] => h
  | (i, b) :: r => hups (hset h i b) r

/-- How deep values may be nested where they are moved. -/
def deep : Nat := 12
def wide : Nat := 4000

def ids : Nat → AV → List Nat
  | 0, _ => []
  | f + 1, v => match v with
    | .ptr i _ _ _ => [i]
    | .sl i _ _ _ _ => [i]
    | .mp i => [i]
    | .agg cs => cs.flatMap (ids f)
    | .tup vs => vs.flatMap (ids f)
    | .fn _ a c => a.flatMap (ids f) ++ c.flatMap (ids f)
    | .ifc _ x => ids f x
    | _ => []
def idsB : Blk → List Nat
  | .row _ es flat => if flat then [] else es.flatMap fun e => e.flatMap (ids deep)
  | .map kvs => kvs.flatMap fun p => ids deep p.1 ++ ids deep p.2

def reach (look : Nat → Option Blk) : Nat → List Nat → List Nat → List Nat
  | 0, _, acc => acc.reverse
  | _ + 1, [], acc => acc.reverse
  | f + 1, i :: q, acc =>
    if acc.contains i then reach look f q acc
    else match look i with
      | none => reach look f q acc
      | some b => reach look f (q ++ idsB b) (i :: acc)

def pos : List Nat → Nat → Option Nat
  | [], _ => none
  | x :: xs, i => if x = i then some 0 else (pos xs i).map (· + 1)

/-- A value moved: own pointers renamed (any where there is no name), what is borrowed struck unless kb, yield struck unless ky. -/
def mv (kb ky : Bool) (ρ : Nat → Option Nat) : Nat → AV → AV
  | 0, _ => .any
  | f + 1, v => match v with
    | .ptr i s k j => match ρ i with
      | some i' => .ptr i' s k j
      | none => .any
    | .sl i s lo n cap => match ρ i with
      | some i' => .sl i' s lo n cap
      | none => .any
    | .mp i => match ρ i with
      | some i' => .mp i'
      | none => .any
    | .agg cs => .agg (cs.map (mv kb ky ρ f))
    | .tup vs => .tup (vs.map (mv kb ky ρ f))
    | .fn g a c => .fn g (a.map (mv kb ky ρ f)) (c.map (mv kb ky ρ f))
    | .ifc t x => .ifc t (mv kb ky ρ f x)
    | .eptr .g cs => .eptr .g cs
    | .ro .g c0 s es => .ro .g c0 s es
    | .eptr kd cs => if kb then .eptr kd cs else .any
    | .ro kd c0 s es => if kb then .ro kd c0 s es else .any
    | .yl => if ky then .yl else .any
    | .any => .any
    | .und => .und
    | .int k n => .int k n
    | .bool b => .bool b
    | .nilp => .nilp
    | .nils => .nils
    | .nilf => .nilf
    | .nili => .nili
    | .nilm => .nilm
def mvB (kb ky : Bool) (ρ : Nat → Option Nat) : Blk → Blk
  | .row s es flat => if flat then .row s es true else .row s (es.map fun e => e.map (mv kb ky ρ deep)) false
  | .map kvs => .map (kvs.map fun p => (mv kb ky ρ deep p.1, mv kb ky ρ deep p.2))

/-- A value lent: own memory becomes immutable memory with its contents. -/
def fz (look : Nat → Option Blk) : Nat → AV → AV
  | 0, _ => .any
  | f + 1, v => match v with
    | .ptr i s k j => match look i with
      | some (.row s' es flat) => if s' = s then match es[k]? with
          | some cs => if flat then .eptr .b (cs.drop j) else .eptr .n ((cs.drop j).map (fz look f))
          | none => .any
        else .any
      | _ => .any
    | .sl i s lo n cap => match look i with
      | some (.row s' es flat) => if s' = s ∧ lo + n ≤ es.length then
          (if flat then .ro .b (cap == some n) s ((es.drop lo).take n) else .ro .n (cap == some n) s (((es.drop lo).take n).map fun e => e.map (fz look f)))
        else .any
      | _ => .any
    | .agg cs => .agg (cs.map (fz look f))
    | .fn g a c => .fn g (a.map (fz look f)) (c.map (fz look f))
    | .ifc t x => .ifc t (fz look f x)
    | .tup _ => .any
    | .mp _ => .any
    | .yl => .any
    | .eptr kd cs => .eptr kd cs
    | .ro kd c0 s es => .ro kd c0 s es
    | .any => .any
    | .und => .und
    | .int k n => .int k n
    | .bool b => .bool b
    | .nilp => .nilp
    | .nils => .nils
    | .nilf => .nilf
    | .nili => .nili
    | .nilm => .nilm

structure St where
  tmps : List AV
  h : Heap

/-- Only what the roots reach stays, numbered anew; the first k blocks keep their numbers. -/
def gcList (k : Nat) (vs : List AV) (h : Heap) : List Nat :=
  let R := reach (hget h) wide (List.range k ++ vs.flatMap (ids deep)) []
  List.range k ++ R.filter (fun i => !(decide (i < k)))
def gcHeap (kb ky : Bool) (R : List Nat) (h : Heap) : Heap := R.map fun i => (hget h i).map (mvB kb ky (pos R))
def keepOnly (live : List Nat) (i : Nat) : List AV → List AV
  | [] => []
  | v :: vs => (if live.contains i then v else .any) :: keepOnly live (i + 1) vs
def norm (k : Nat) (live : List Nat) (σ : St) : St :=
  let ts := keepOnly live 0 σ.tmps
  let R := gcList k ts σ.h
  { tmps := ts.map (mv true true (pos R) deep), h := gcHeap true true R σ.h }

/-! ### Types -/

inductive TK where
  | int (k : IntKind)
  | bool
  | slice (e : TypeId)
  | ptr (e : TypeId)
  | struct (fs : List (Nat × Nat × Bool))
  | array (n es : Nat) (ea : Bool)
  | iface
  | func
  | map (k e : TypeId)
  | other
structure Ty where
  kind : TK
  agg : Bool
  size : Nat
  bytes : Nat
  zero : Option (List AV)
  eqOk : Option (List Bool)

def avOf1 : Value → AV
  | .bool b => .bool b
  | .int k n => .int k n
  | .pointer none => .nilp
  | .slice none 0 0 => .nils
  | .nilFunc => .nilf
  | .nilIface => .nili
  | .map none => .nilm
  | _ => .any
def avOf : Value → AV
  | .agg cs => .agg (cs.toList.map avOf1)
  | v => avOf1 v

def tyAgg (P : Program) (t : TypeId) : Bool := match P.underlying t with
  | some (.struct _) => true
  | some (.array _ _) => true
  | _ => false
def tyValid (P : Program) (t : TypeId) : Bool := (P.info? t).isSome && (P.underlying t).isSome
def tyKind (P : Program) (t : TypeId) : TK := match P.underlying t with
  | some (.int k) => .int k
  | some .bool => .bool
  | some (.slice e) => .slice e
  | some (.pointer e) => .ptr e
  | some (.struct fs) => if fs.toList.all (fun f => tyValid P f.type) then .struct (fs.toList.map fun f => (f.offset, P.cellsOf f.type, tyAgg P f.type)) else .other
  | some (.array n e) => if tyValid P e then .array n (P.cellsOf e) (tyAgg P e) else .other
  | some (.interface _) => .iface
  | some (.func _ _ _) => .func
  | some (.map k e) => .map k e
  | _ => .other
/-- Structs of plain fields, one cell each, in order: they are equal where their cells are (true: an integer, false: a bool). -/
def plainFields (P : Program) : List Field → Nat → Option (List Bool)
  | [], _ => some []
  | f :: fs, i => if f.name != "_" && f.offset == i then (match P.underlying f.type with
      | some (.int _) => (plainFields P fs (i + 1)).map (true :: ·)
      | some .bool => (plainFields P fs (i + 1)).map (false :: ·)
      | _ => none) else none
def tyEqOk (P : Program) (t : TypeId) : Option (List Bool) := match P.underlying t with
  | some (.struct fs) => if !P.stoodInHeld t && !P.eqGuardType P.depth t then plainFields P fs.toList 0 else none
  | _ => none
def tyOf (P : Program) (t : TypeId) : Option Ty := match P.info? t, P.underlying t with
  | some i, some _ => some { kind := tyKind P t, agg := tyAgg P t, size := i.size, bytes := i.bytes, zero := i.zero.map fun v => v.cells.toList.map avOf1, eqOk := tyEqOk P t }
  | _, _ => none

structure Cfg where
  P : Program
  ty : TypeId → Option Ty
  /-- which arguments a function may write to (captured ones too, behind the others) -/
  wr : FuncId → List Bool
  /-- the slots that live at a loop's head, by the loop's first region -/
  ann : FuncId → Nat → Option (List Nat)
  /-- the slots that live where a loop is left: by an exit, or (none) by a return -/
  annX : FuncId → Nat → Option Nat → Option (List Nat)
  fuel : Nat
  ext : FuncId → Option (List AV → Option AV)

/-! ### Operations -/

inductive MA where
  | pure (v : AV)
  | newp (s : Nat) (e : List AV)
  | news (s : Nat) (es : List (List AV)) (n cap : Nat)
  | load (i s k j : Nat) (agg : Bool) (n : Nat)
  | store (i s k j : Nat) (cs : List AV)
  | append (a x : AV) (s bytes : Nat)
  | copy (d x : AV) (s : Nat)
  | call (f : FuncId) (args : List AV)
  | yld (args : List AV)
  | newm
  | mlen (i : Nat)
  | mget (i : Nat) (k : AV) (zero : AV) (ok : Bool)
  | mset (i : Nat) (k v : AV)

def binInt (op : BinOp) (k : IntKind) (a b : Int) : Option AV := match op with
  | .add => some (.int k (k.wrap (a + b)))
  | .sub => some (.int k (k.wrap (a - b)))
  | .mul => some (.int k (k.wrap (a * b)))
  | .quo => if b = 0 then none else some (.int k (k.wrap (a.tdiv b)))
  | .rem => if b = 0 then none else some (.int k (a.tmod b))
  | .and => some (.int k (k.wrap (BitVec.ofInt k.bits a &&& BitVec.ofInt k.bits b).toNat))
  | .or => some (.int k (k.wrap (BitVec.ofInt k.bits a ||| BitVec.ofInt k.bits b).toNat))
  | .xor => some (.int k (k.wrap (BitVec.ofInt k.bits a ^^^ BitVec.ofInt k.bits b).toNat))
  | .eql => some (.bool (a == b))
  | .neq => some (.bool (a != b))
  | .lss => some (.bool (decide (a < b)))
  | .leq => some (.bool (decide (a ≤ b)))
  | .gtr => some (.bool (decide (a > b)))
  | .geq => some (.bool (decide (a ≥ b)))
  | _ => none
/-- Cells that can be told apart. -/
def eqCells : List Bool → List AV → List AV → Option Bool
  | [], [], [] => some true
  | true :: ks, .int k a :: xs, .int k' b :: ys => if k = k' then (eqCells ks xs ys).map ((a == b) && ·) else none
  | false :: ks, .bool a :: xs, .bool b :: ys => (eqCells ks xs ys).map ((a == b) && ·)
  | _, _, _ => none
/-- Equality, but of integers. -/
def eqA (T : Option Ty) (x y : AV) : Option Bool := match x, y with
  | .bool a, .bool b => (match T with
    | some { kind := .bool, .. } => some (a == b)
    | _ => none)
  | .agg xs, .agg ys => (match T with
    | some { eqOk := some ks, .. } => eqCells ks xs ys
    | _ => none)
  | x, y => (match T, x, y with
    | some { kind := .ptr _, .. }, .nilp, .nilp => some true
    | some { kind := .ptr _, .. }, .nilp, .ptr _ _ _ _ => some false
    | some { kind := .ptr _, .. }, .nilp, .eptr _ _ => some false
    | some { kind := .ptr _, .. }, .ptr _ _ _ _, .nilp => some false
    | some { kind := .ptr _, .. }, .eptr _ _, .nilp => some false
    | some { kind := .slice _, .. }, .nils, .nils => some true
    | some { kind := .slice _, .. }, .nils, .ro _ _ _ (_ :: _) => some false
    | some { kind := .slice _, .. }, .nils, .sl _ _ _ _ _ => some false
    | some { kind := .slice _, .. }, .ro _ _ _ (_ :: _), .nils => some false
    | some { kind := .slice _, .. }, .sl _ _ _ _ _, .nils => some false
    | some { kind := .iface, .. }, .nili, .ifc _ _ => some false
    | some { kind := .iface, .. }, .ifc _ _, .nili => some false
    | _, _, _ => none)
def binA (T : Option Ty) (op : BinOp) (x y : AV) : Option AV := match op, x, y with
  | .shl, .int k a, .int _ b => if b < 0 then none else some (.int k (k.wrap (a * 2 ^ (min b.toNat k.bits))))
  | .shr, .int k a, .int _ b => if b < 0 then none else some (.int k (a.fdiv (2 ^ (min b.toNat k.bits))))
  | op, .int k a, .int k' b => if k = k' then binInt op k a b else none
  | .eql, x, y => (eqA T x y).map .bool
  | .neq, x, y => (eqA T x y).map fun r => .bool !r
  | _, _, _ => none
def unA (op : UnOp) (x : AV) : Option AV := match op, x with
  | .neg, .int k n => some (.int k (k.wrap (0 - n)))
  | .not, .bool b => some (.bool !b)
  | _, _ => none

def asNat (v : AV) (most : Nat) : Option Nat := match v with
  | .int _ n => if 0 ≤ n ∧ n ≤ (most : Int) then some n.toNat else none
  | _ => none
def evO (ev : Operand → AV) (x : Option Operand) (dflt : Nat) (most : Nat) : Option Nat := match x with
  | none => some dflt
  | some x => asNat (ev x) most

def sliceA (size : Nat) (ev : Operand → AV) (x : AV) (lo hi mx : Option Operand) : Option AV := match x with
  | .nils => do
    let _ ← evO ev mx 0 0
    let _ ← evO ev hi 0 0
    let _ ← evO ev lo 0 0
    if mx.isSome && hi.isNone then none else some .nils
  | .ro kd c0 s es => do
    if mx.isSome && hi.isNone then none else
    let m ← evO ev mx es.length es.length
    let h ← evO ev hi es.length m
    let l ← evO ev lo 0 h
    if s = size then some (.ro kd (if mx.isSome then decide (m = h) else c0 && decide (h = es.length)) s ((es.drop l).take (h - l))) else none
  | .sl i s a n cap => do
    if mx.isSome && hi.isNone then none else
    let m ← evO ev mx n n
    let h ← evO ev hi n m
    let l ← evO ev lo 0 h
    if s = size then some (.sl i s (a + l) (h - l) (if mx.isSome then some (m - l) else cap.map (· - l))) else none
  | _ => none

def lenA : AV → Option Nat
  | .nils => some 0
  | .ro _ _ s es => some es.length
  | .sl _ _ _ n _ => some n
  | _ => none
def foldInts (f : Int → Int → Int) (k : IntKind) : List AV → Int → Option AV
  | [], a => some (.int k a)
  | .int k' b :: r, a => if k = k' then foldInts f k r (f a b) else none
  | _, _ => none

/-- Cells with parts laid in. -/
def fillA (places : Nat → Option (Nat × Nat)) (cells : List AV) : List (Nat × AV) → Option (List AV)
  | [] => some cells
  | (_, .any) :: _ => none
  | (i, v) :: rest => match places i with
    | none => none
    | some (off, size) => if v.cells.length = size ∧ off + size ≤ cells.length
      then fillA places (cells.take off ++ v.cells ++ cells.drop (off + size)) rest else none

def chunks (s : Nat) : Nat → List AV → List (List AV)
  | 0, _ => []
  | n + 1, cs => cs.take s :: chunks s n (cs.drop s)

def planB (C : Cfg) (ev : Operand → AV) (b : Builtin) (args : List Operand) (ts : List TypeId) : Option MA := match b, args, ts with
  | .len, [x], [t] => (match C.ty t with
    | some { kind := .slice _, .. } => (lenA (ev x)).map fun (n : Nat) => MA.pure (i64 (n : Int))
    | some { kind := .map _ _, .. } => (match ev x with
      | .nilm => some (.pure (i64 0))
      | .mp i => some (.mlen i)
      | _ => none)
    | some { kind := .array n _ _, .. } => some (.pure (i64 n))
    | _ => none)
  | .min, x :: r, _ => (match ev x with
    | .int k a => (foldInts (fun a b => if b < a then b else a) k (r.map ev) a).map .pure
    | _ => none)
  | .max, x :: r, _ => (match ev x with
    | .int k a => (foldInts (fun a b => if b > a then b else a) k (r.map ev) a).map .pure
    | _ => none)
  | .append, [a, x], [t, u] => (match C.ty t, C.ty u with
    | some { kind := .slice e, .. }, some { kind := .slice _, .. } => (match C.ty e with
      | some { size := s, bytes := by_, zero := some z, .. } => if z.length = s then some (.append (ev a) (ev x) s by_) else none
      | _ => none)
    | _, _ => none)
  | .copy, [d, x], [t, u] => (match C.ty t, C.ty u with
    | some { kind := .slice e, .. }, some { kind := .slice _, .. } => (match C.ty e with
      | some te => some (.copy (ev d) (ev x) te.size)
      | none => none)
    | _, _ => none)
  | _, _, _ => none

def plan (C : Cfg) (ev : Operand → AV) (o : Oper) : Option MA := match o.op with
  | .move x => some (.pure (ev x))
  | .assign x => some (.pure (ev x))
  | .pick c a b => (match ev c with
    | .bool t => some (.pure (if t then ev a else ev b))
    | _ => none)
  | .alloc t => (match C.ty t with
    | some { zero := some z, .. } => some (.newp z.length z)
    | _ => none)
  | .box _ x => (match ev x with
    | .any => none
    | v => some (.newp v.cells.length v.cells))
  | .build t parts => (match C.ty t with
    | some { kind := .struct fs, zero := some z, .. } =>
      ((fillA (fun i => (fs[i]?).map fun f => (f.1, f.2.1)) z (parts.toList.map fun p => (p.1, ev p.2))).map fun cs => .pure (.agg cs))
    | some { kind := .array _ es _, zero := some z, .. } =>
      ((fillA (fun i => some (i * es, es)) z (parts.toList.map fun p => (p.1, ev p.2))).map fun cs => .pure (.agg cs))
    | _ => none)
  | .buildSlice t len parts => (match C.ty t with
    | some { kind := .slice e, .. } => (match C.ty e with
      | some { size := s, zero := some z, .. } => if len * s ≤ 2 ^ 20 ∧ z.length = s then
          ((fillA (fun i => some (i * s, s)) (List.replicate len z).flatten (parts.toList.map fun p => (p.1, ev p.2))).map fun cs => .news s (chunks s len cs) len len)
        else none
      | _ => none)
    | _ => none)
  | .load t a => (match C.ty t with
    | some ty => (match ev a with
      | .ptr i s k j => some (.load i s k j ty.agg ty.size)
      | .eptr _ cs => if ty.agg then (if ty.size ≤ cs.length then some (.pure (.agg (cs.take ty.size))) else none) else (cs.head?).map .pure
      | _ => none)
    | none => none)
  | .store t a x => (match C.ty t with
    | some ty => (match ev a, ev x with
      | .ptr _ _ _ _, .any => none
      | .ptr i s k j, v => if v.cells.length = ty.size then some (.store i s k j v.cells) else none
      | _, _ => none)
    | none => none)
  | .nilCheck x => (match ev x with
    | .ptr i s k j => some (.pure (.ptr i s k j))
    | .eptr kd cs => some (.pure (.eptr kd cs))
    | .fn (.func f) a c => some (.pure (.fn (.func f) a c))
    | _ => none)
  | .binOp op t x y _ => (binA (C.ty t) op (ev x) (ev y)).map .pure
  | .unOp op _ x => (unA op (ev x)).map .pure
  | .convert s d x => (match C.ty s, C.ty d, ev x with
    | some { kind := .int _, .. }, some { kind := .int k, .. }, .int _ n => some (.pure (.int k (k.wrap n)))
    | _, _, _ => none)
  | .makeInterface t x => (match C.ty t with
    | some { kind := .iface, .. } => none
    | some _ => some (.pure (.ifc t (ev x)))
    | none => none)
  | .makeFunc f a c => some (.pure (.fn f (a.toList.map ev) (c.toList.map ev)))
  | .makeSlice t l c => (match C.ty t, ev l, ev c with
    | some { kind := .slice e, .. }, .int .i64 n, .int .i64 m => (match C.ty e with
      | some { size := s, bytes := by_, zero := some z, .. } =>
        if 0 ≤ n ∧ n = m ∧ n ≤ 2 ^ 40 ∧ by_ * n ≤ 2 ^ 46 ∧ z.length = s ∧ 0 < s then some (.news s (List.replicate n.toNat z) n.toNat n.toNat) else none
      | _ => none)
    | _, _, _ => none)
  | .slice t x lo hi mx => (match C.ty t with
    | some { kind := .slice e, .. } => (match C.ty e with
      | some te => (sliceA te.size ev (ev x) lo hi mx).map .pure
      | none => none)
    | _ => none)
  | .fieldAddr t x f => (match C.ty t with
    | some { kind := .struct fs, .. } => (match fs[f]? with
      | some (off, sz, _) => if sz = 0 then none else (match ev x with
        | .ptr i s k j => some (.pure (.ptr i s k (j + off)))
        | .eptr kd cs => some (.pure (.eptr kd (cs.drop off)))
        | _ => none)
      | none => none)
    | _ => none)
  | .field t x f => (match C.ty t, ev x with
    | some { kind := .struct fs, .. }, .agg cs => (match fs[f]? with
      | some (off, sz, true) => if off + sz ≤ cs.length then some (.pure (.agg ((cs.drop off).take sz))) else none
      | some (off, _, false) => (cs[off]?).map .pure
      | none => none)
    | _, _ => none)
  | .indexAddr t x ix => (match C.ty t, ev ix with
    | some { kind := .slice e, .. }, .int _ n => (match C.ty e, ev x with
      | some te, .ro kd _ s es => if 0 ≤ n ∧ s = te.size then (match es[n.toNat]? with
          | some cs => some (.pure (.eptr kd cs))
          | none => none) else none
      | some te, .sl i s lo m _ => if 0 ≤ n ∧ n < (m : Int) ∧ s = te.size then some (.pure (.ptr i s (lo + n.toNat) 0)) else none
      | _, _ => none)
    | some { kind := .array m es _, .. }, .int _ n => if 0 ≤ n ∧ n < (m : Int) then (match ev x with
      | .ptr i s k j => some (.pure (.ptr i s k (j + n.toNat * es)))
      | .eptr kd cs => some (.pure (.eptr kd (cs.drop (n.toNat * es))))
      | _ => none) else none
    | _, _ => none)
  | .index t x ix => (match C.ty t, ev x, ev ix with
    | some { kind := .array m es ea, .. }, .agg cs, .int _ n => if 0 ≤ n ∧ n < (m : Int) then
        (if ea then (if n.toNat * es + es ≤ cs.length then some (.pure (.agg ((cs.drop (n.toNat * es)).take es))) else none) else (cs[n.toNat * es]?).map .pure)
      else none
    | _, _, _ => none)
  | .extract x i => (match ev x with
    | .tup vs => (vs[i]?).map .pure
    | _ => none)
  | .call c => (match c.callee with
    | .builtin b => planB C ev b c.args.toList c.argTypes.toList
    | .value f => (match ev f with
      | .fn (.func g) a cp => some (.call g (a ++ c.args.toList.map ev ++ cp))
      | .yl => some (.yld (c.args.toList.map ev))
      | _ => none)
    | .invoke _ _ => none)
  | _ => none

/-- A handler: what yield does: its arguments and blocks for them; the bool that it hands back and the blocks again. -/
abbrev Hd (S : Type) := List AV → Heap → S → Option (AV × Heap × S)
abbrev CallT := (S : Type) → Option (Hd S) → FuncId → List AV → Heap → S → Option (AV × Heap × S)

/-- What slices hold. -/
def contents (look : Nat → Option Blk) (sz : Nat) : AV → Option (List (List AV) × Bool)
  | .nils => some ([], true)
  | .ro kd _ s es => if s = sz then some (es, !(decide (kd = .n))) else none
  | .sl i s lo n _ => match look i with
    | some (.row s' es flat) => if s' = s ∧ s = sz ∧ lo + n ≤ es.length then some ((es.drop lo).take n, flat) else none
    | _ => none
  | _ => none

def flatV : AV → Bool
  | .int _ _ => true
  | .bool _ => true
  | .nilp => true
  | .nils => true
  | .nilf => true
  | .nili => true
  | .nilm => true
  | .ro .g _ _ _ => true
  | .eptr .g _ => true
  | _ => false
def flatL : List AV → Bool
  | [] => true
  | c :: cs => flatV c && flatL cs
def flatE : List (List AV) → Bool
  | [] => true
  | e :: es => flatL e && flatE es

/-- Values that may lie in one cell. -/
def okV : AV → Bool
  | .any => false
  | .und => false
  | .agg _ => false
  | .tup _ => false
  | _ => true
def okL : List AV → Bool
  | [] => true
  | c :: cs => okV c && okL cs
def okE : List (List AV) → Bool
  | [] => true
  | e :: es => okL e && okE es
def lens (s : Nat) : List (List AV) → Bool
  | [] => true
  | e :: es => decide (e.length = s) && lens s es

structure Res (S : Type) where
  v : AV
  ups : List (Nat × Option Blk)
  news : Heap
  s : S

/-- Values and blocks handed over: those of the arguments that may be written to keep their memory (moved), the others lend theirs. -/
def handIn (look : Nat → Option Blk) (flags : List Bool) (args : List AV) : List Nat × List AV × Heap :=
  let ms := reach look wide ((args.zip (flags ++ List.replicate args.length false)).flatMap fun p => if p.2 then ids deep p.1 else []) []
  let look' : Nat → Option Blk := fun i => if ms.contains i then none else look i
  (ms, (args.zip (flags ++ List.replicate args.length false)).map (fun p => if p.2 then mv true true (pos ms) deep p.1 else fz look' deep p.1),
    ms.map fun i => (look i).map (mvB true true (pos ms)))

/-- What a call hands back: its blocks' numbers turned into the caller's. -/
def back (ms : List Nat) (at_ : Nat) (i : Nat) : Option Nat := match ms[i]? with
  | some m => some m
  | none => if ms.length ≤ i then some (at_ + (i - ms.length)) else none
def handBack (ms : List Nat) (at_ : Nat) (nh : Heap) : List (Nat × Option Blk) × Heap :=
  ((ms.zip (List.range ms.length)).map fun p => (p.1, (hget nh p.2).map (mvB true true (back ms at_))),
    (nh.drop ms.length).map fun b => b.map (mvB true true (back ms at_)))

def act (C : Cfg) (call : CallT) {S : Type} (H : Option (Hd S)) (at_ : Nat) (look : Nat → Option Blk) (s : S) : MA → Option (Res S)
  | .pure v => some ⟨v, [], [], s⟩
  | .newp sz e => if okL e then some ⟨.ptr at_ sz 0 0, [], [some (.row sz [e] (flatL e))], s⟩ else none
  | .news sz es n cap => if okE es && lens sz es then some ⟨.sl at_ sz 0 n (some cap), [], [some (.row sz es (flatE es))], s⟩ else none
  | .load i sz k j agg n => match look i with
    | some (.row s' es _) => if s' = sz then (match es[k]? with
        | some cs => if agg then (if j + n ≤ cs.length then some ⟨.agg ((cs.drop j).take n), [], [], s⟩ else none)
          else (match cs[j]? with
            | some v => some ⟨v, [], [], s⟩
            | none => none)
        | none => none) else none
    | _ => none
  | .store i sz k j vs => match look i with
    | some (.row s' es flat) => if s' = sz then (match es[k]? with
        | some cs => if j + vs.length ≤ cs.length ∧ okL vs = true then some ⟨.und, [(i, some (.row sz (es.set k (cs.take j ++ vs ++ cs.drop (j + vs.length))) (flat && flatL vs)))], [], s⟩ else none
        | none => none) else none
    | _ => none
  | .append a x sz by_ => match contents look sz x with
    | none => none
    | some (xs, fx) => match a with
      | .nils => if xs.isEmpty then some ⟨.nils, [], [], s⟩ else
          if xs.length ≤ 2 ^ 40 ∧ xs.length * by_ ≤ 2 ^ 46 ∧ 0 < sz then some ⟨.sl at_ sz 0 xs.length none, [], [some (.row sz xs fx)], s⟩ else none
      | .ro kd c0 sr es => if xs.isEmpty then some ⟨.ro kd c0 sr es, [], [], s⟩ else
          if c0 && decide (sr = sz ∧ es.length + xs.length ≤ 2 ^ 40 ∧ (es.length + xs.length) * by_ ≤ 2 ^ 46 ∧ 0 < sz) then some ⟨.sl at_ sz 0 (es.length + xs.length) none, [], [some (.row sz (es ++ xs) (fx && !(decide (kd = .n))))], s⟩ else none
      | .sl i s' lo n cap => if xs.isEmpty then some ⟨.sl i s' lo n cap, [], [], s⟩ else
          (match look i with
          | some (.row s'' es flat) => if s' = sz ∧ s'' = sz ∧ lo = 0 ∧ n ≤ es.length ∧ n + xs.length ≤ 2 ^ 40 ∧ (n + xs.length) * by_ ≤ 2 ^ 46 ∧ 0 < sz then
              some ⟨.sl at_ sz 0 (n + xs.length) none, [(i, none)], [some (.row sz (es.take n ++ xs) (flat && fx))], s⟩ else none
          | _ => none)
      | _ => none
  | .copy d x ss => match contents look ss x with
    | none => none
    | some (xs, fx) => match d with
      | .nils => some ⟨i64 0, [], [], s⟩
      | .sl i sz lo n _ => (match look i with
        | some (.row s' es flat) => if s' = sz ∧ sz = ss ∧ lo + n ≤ es.length then
            some ⟨i64 (min xs.length n : Nat), [(i, some (.row sz (es.take lo ++ xs.take (min xs.length n) ++ es.drop (lo + min xs.length n)) (flat && fx)))], [], s⟩ else none
        | _ => none)
      | _ => none
  | .call f args => match C.ext f with
    | some E => (E (args.map (fz look deep))).map fun v => ⟨mv true true (back [] at_) deep v, [], [], s⟩
    | none => match C.wr f with
      | [] => match call Unit none f (args.map (fz look deep)) [] () with
        | some (v, nh, _) => some ⟨mv true true (back [] at_) deep v, [], (handBack [] at_ nh).2, s⟩
        | none => none
      | flags => match handIn look flags args with
        | (ms, cargs, ch) => match call S H f cargs ch s with
          | some (v, nh, s') => some ⟨mv true true (back ms at_) deep v, (handBack ms at_ nh).1, (handBack ms at_ nh).2, s'⟩
          | none => none
  | .yld args => match H with
    | none => none
    | some H => match handIn look (args.map fun _ => true) args with
      | (ms, cargs, ch) => match H cargs ch s with
        | some (.bool b, nh, s') => some ⟨.bool b, (handBack ms at_ (nh.take ms.length)).1, [], s'⟩
        | _ => none
  | _ => none

def put (dst : Option Tmp) (v : AV) (ts : List AV) : List AV := match dst with
  | none => ts
  | some d => ts.set d v

def wantedA (ops : Array Oper) (ts : List AV) (o : Oper) : Option Bool := match o.guard with
  | none => some true
  | some (j, want) => match ((ops[j]?).bind (·.dst)).bind (ts[·]?) with
    | some (.bool b) => some (b == want)
    | some .und => some false
    | _ => none

def ev (ts : List AV) : Operand → AV
  | .tmp t => (ts[t]?).getD .und
  | .const v => avOf v
  | .global _ => .any
  | .func f => .fn (.func f) [] []

def stepA (C : Cfg) (call : CallT) {S : Type} (H : Option (Hd S)) (ops : Array Oper) (o : Oper) (σ : St) (s : S) : Option (St × S) :=
  match wantedA ops σ.tmps o with
  | none => none
  | some false => some ({ σ with tmps := put o.dst .und σ.tmps }, s)
  | some true => match plan C (ev σ.tmps) o with
    | none => none
    | some ma => match act C call H σ.h.length (hget σ.h) s ma with
      | none => none
      | some r => some ({ tmps := put o.dst r.v σ.tmps, h := hputs (hups σ.h r.ups) σ.h.length r.news }, r.s)

def runA (C : Cfg) (call : CallT) {S : Type} (H : Option (Hd S)) (ops : Array Oper) : List Oper → St → S → Option (St × S)
  | [], σ, s => some (σ, s)
  | o :: r, σ, s => match stepA C call H ops o σ s with
    | none => none
    | some (σ', s') => runA C call H ops r σ' s'

/-! ### Regions that draw their order: in the order of the text, and nothing that is unordered may interfere -/

/-- What an operation touches: 0 nothing, 1 it reads blocks, 2 it reads and writes blocks, 3 it calls (it may read all, and writes nothing that lay before), 4 whatever. -/
structure Touch where
  cls : Nat
  is : List Nat
def sid : AV → List Nat
  | .sl i _ _ _ _ => [i]
  | _ => []
def touch (C : Cfg) : MA → Touch
  | .pure _ => ⟨0, []⟩
  | .newp _ _ => ⟨0, []⟩
  | .news _ _ _ _ => ⟨0, []⟩
  | .load i _ _ _ _ _ => ⟨1, [i]⟩
  | .store i _ _ _ _ => ⟨2, [i]⟩
  | .append a x _ _ => ⟨2, sid a ++ sid x⟩
  | .copy a x _ => ⟨2, sid a ++ sid x⟩
  | .call f _ => match C.ext f, C.wr f with
    | none, _ :: _ => ⟨4, []⟩
    | _, _ => ⟨3, []⟩
  | _ => ⟨4, []⟩
def clash (a b : Touch) : Bool :=
  match a.cls, b.cls with
  | 0, _ => false
  | _, 0 => false
  | 1, 1 => false
  | 1, 3 => false
  | 3, 1 => false
  | 3, 3 => false
  | 4, _ => true
  | _, 4 => true
  | 3, _ => true
  | _, 3 => true
  | _, _ => a.is.any (b.is.contains ·)

structure Done where
  /-- the operation, its touch, the first of its new blocks, how many -/
  i : Nat
  t : Touch
  a : Nat
  n : Nat

def visible (m : Nat) (done : List Done) (dep : Nat) (id : Nat) : Bool :=
  decide (id < m) || done.any fun d => dep.testBit d.i && decide (d.a ≤ id ∧ id < d.a + d.n)

def runD (C : Cfg) (call : CallT) {S : Type} (H : Option (Hd S)) (ops : Array Oper) (deps : Array Nat) (m : Nat) :
    List (Oper × Nat) → List Done → St → S → Option (St × S)
  | [], _, σ, s => some (σ, s)
  | (o, i) :: r, done, σ, s => match wantedA ops σ.tmps o with
    | none => none
    | some false => runD C call H ops deps m r done { σ with tmps := put o.dst .und σ.tmps } s
    | some true => match plan C (ev σ.tmps) o with
      | none => none
      | some ma =>
        let t := touch C ma
        let dep := deps.getD i 0
        if done.any (fun d => !(dep.testBit d.i) && clash d.t t) then none else
        match act C call H σ.h.length (fun id => if visible m done dep id && (decide (t.cls = 3 ∨ t.cls = 4) || t.is.contains id) then hget σ.h id else none) s ma with
        | none => none
        | some res => runD C call H ops deps m r (⟨i, t, σ.h.length, res.news.length⟩ :: done)
            { tmps := put o.dst res.v σ.tmps, h := hputs (hups σ.h res.ups) σ.h.length res.news } res.s

/-! ### Code -/

inductive Ex where
  | normal
  | exit (id : Nat)
  | ret

def keyOf : Code → Nat
  | .region i _ _ => i
  | .seq a b => match a with
    | .skip => keyOf b
    | .label _ => keyOf b
    | _ => keyOf a
  | .cond _ a _ => keyOf a
  | .block _ b => keyOf b
  | .loop b => keyOf b
  | .scope b => keyOf b
  | .rangeFunc _ _ _ b => keyOf b
  | _ => 0

def loopA {S : Type} (nrm : St → St) (body : St → S → Option (Ex × St × S)) : Nat → St → S → Option (Ex × St × S)
  | 0, _, _ => none
  | n + 1, σ, s => match body (nrm σ) s with
    | some (.normal, σ', s') => loopA nrm body n σ' s'
    | r => r

def setParams (ps : List Tmp) (vs : List AV) (ts : List AV) : List AV := (ps.zip vs).foldl (fun ts p => ts.set p.1 p.2) ts

def roundIn (n at_ i : Nat) : Option Nat := if i < n then some (at_ + i) else none

def gcOf (C : Cfg) (k : Nat) (f : FuncId) (body : Code) : St → St := match C.ann f (keyOf body) with
  | some live => norm k live
  | none => id
/-- A round of a range over a function: what yield does. -/
def roundH {S : Type} (ps : Array Tmp) (gc : St → St) (ra rb : Nat → St → S → Option (Ex × St × S)) : Hd (St × Option Ex × S) := fun ya yh st => match st with
  | (_, some _, _) => none
  | (τ, none, s) => if ya.length = ps.size then
      (match ra (τ.h.length + yh.length) { tmps := setParams ps.toList (ya.map (mv false false (roundIn yh.length τ.h.length) deep)) τ.tmps, h := τ.h ++ yh.map fun b => b.map (mvB false false (roundIn yh.length τ.h.length)) } s with
      | some (.normal, σ1, s1) => (match rb (τ.h.length + yh.length) σ1 s1 with
        | some (.normal, σ2, s2) => some (.bool true, List.replicate yh.length none, (gc { tmps := τ.tmps, h := σ2.h }, none, s2))
        | some (e, σ2, s2) => some (.bool false, List.replicate yh.length none, (gc { tmps := τ.tmps, h := σ2.h }, some e, s2))
        | none => none)
      | _ => none) else none

/-- A loop is left. -/
def gcX (C : Cfg) (k : Nat) (f : FuncId) (body : Code) (e : Ex) (σ : St) : St := match e with
  | .normal => σ
  | .exit id => match C.annX f (keyOf body) (some id) with
    | some live => norm k live σ
    | none => σ
  | .ret => match C.annX f (keyOf body) none with
    | some live => norm k live σ
    | none => σ
def execA (C : Cfg) (call : CallT) (f : FuncId) (k : Nat) {S : Type} (H : Option (Hd S)) : Code → St → S → Option (Ex × St × S)
  | .skip, σ, s => some (.normal, σ, s)
  | .label _, σ, s => some (.normal, σ, s)
  | .region _ ops draw, σ, s =>
    match (if draw then runD C call H ops (Region.before ops) σ.h.length (ops.toList.zip (List.range ops.size)) [] σ s else runA C call H ops ops.toList σ s) with
    | some (σ', s') => some (.normal, σ', s')
    | none => none
  | .seq a b, σ, s => match execA C call f k H a σ s with
    | some (.normal, σ', s') => execA C call f k H b σ' s'
    | r => r
  | .cond c a b, σ, s => match ev σ.tmps c with
    | .bool t => if t then execA C call f k H a σ s else execA C call f k H b σ s
    | _ => none
  | .block id b, σ, s => match execA C call f k H b σ s with
    | some (.exit id', σ', s') => if id' = id then some (.normal, σ', s') else some (.exit id', σ', s')
    | r => r
  | .loop b, σ, s => (loopA (gcOf C k f b) (execA C call f k H b) C.fuel σ s).map fun r => (r.1, gcX C k f b r.1 r.2.1, r.2.2)
  | .rangeFunc g ps assign body, σ0, s =>
    let gc : St → St := gcOf C k f body
    let σ := gc σ0
    match ev σ.tmps g with
    | .fn (.func gf) a cp =>
      let ms := reach (hget σ.h) wide ((a ++ cp).flatMap (ids deep)) []
      (match call (St × Option Ex × S) (some (roundH ps gc (fun kk => execA C call f kk H assign) (fun kk => execA C call f kk H body))) gf (a.map (mv true false (pos ms) deep) ++ [.yl] ++ cp.map (mv true false (pos ms) deep))
          (ms.map fun i => (hget σ.h i).map (mvB true false (pos ms))) ({ tmps := σ.tmps, h := hups σ.h (ms.map fun i => (i, none)) }, none, s) with
      | some (_, _, (τ, pend, s')) =>
        some (match pend with
          | none => .normal
          | some e => e, τ, s')
      | none => none)
    | _ => none
  | .scope b, σ, s => execA C call f k H b σ s
  | .exit id, σ, s => some (.exit id, σ, s)
  | .ret, σ, s => some (.ret, σ, s)
  | _, _, _ => none

def loadR (h : Heap) (C : Cfg) (v : AV) (t : TypeId) : Option AV := match C.ty t, v with
  | some ty, .ptr i s q j => (match hget h i with
    | some (.row s' es _) => if s' = s then (match es[q]? with
        | some cs => if ty.agg then (if j + ty.size ≤ cs.length then some (.agg ((cs.drop j).take ty.size)) else none) else cs[j]?
        | none => none) else none
    | _ => none)
  | _, _ => none
def resultsA (C : Cfg) (σ : St) : List ResultVar → Option (List AV)
  | [] => some []
  | .tmp t :: r => match resultsA C σ r with
    | some vs => some (((σ.tmps[t]?).getD .und) :: vs)
    | none => none
  | .cell a t :: r => match loadR σ.h C ((σ.tmps[a]?).getD .und) t, resultsA C σ r with
    | some v, some vs => some (v :: vs)
    | _, _ => none
def oneOf : List AV → AV
  | [v] => v
  | vs => .tup vs

def finishA (C : Cfg) (k : Nat) (fn : Func) (σ : St) : Option (AV × Heap) :=
  match resultsA C σ fn.results.toList with
  | none => none
  | some vs =>
    let v := oneOf vs
    let R := gcList k [v] σ.h
    some (mv false true (pos R) deep v, gcHeap false true R σ.h)

def callA (C : Cfg) : Nat → CallT
  | 0, _, _, _, _, _, _ => none
  | n + 1, _, H, f, args, h, s => match C.P.funcs[f]? with
    | none => none
    | some fn => match fn.body with
      | none => none
      | some c => match execA C (callA C n) f h.length H c { tmps := args ++ List.replicate (fn.ntmps - args.length) .und, h := h } s with
        | some (.normal, σ, s') => (finishA C h.length fn σ).map fun r => (r.1, r.2, s')
        | some (.ret, σ, s') => (finishA C h.length fn σ).map fun r => (r.1, r.2, s')
        | _ => none

end Go.Lite
