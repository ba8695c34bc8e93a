/-
  Symbolic values over LiteDef's: integers, bools and lists are Lean terms; what is done with them is a tree of cases that reduces without them being known.
-/
import Derived.Test.YtlofnkkokcihnaaLiteArgs
namespace Go.Lite

inductive K where
  | int (k : IntKind)
  | bool
  | ro (ks : List K)
inductive D where
  | i (n : Int)
  | b (x : Bool)
  | l (es : List (List D))
instance : Inhabited D := ⟨.i 0⟩
def D.I : D → Int
  | .i n => n
  | _ => 0
def D.B : D → Bool
  | .b x => x
  | _ => false
def D.L : D → List (List D)
  | .l es => es
  | _ => []

inductive SV where
  | any
  | und
  | int (k : IntKind) (n : Int)
  | bool (b : Bool)
  | kb (b : Bool)
  | agg (cs : List SV)
  | tup (vs : List SV)
  | nilp
  | ptr (i s k j : Nat)
  | eptr (cs : List SV)
  | nils
  | ro (c0 : Bool) (ks : List K) (l : List (List D))
  | sl (i s n : Nat)
  | nilf
  | fn (f : Fn) (a c : List SV)
  | nili
  | ifc (t : TypeId) (v : SV)
inductive SB where
  | box (cs : List SV)
  | row (ks : List K) (l : List (List D))
  | junk
abbrev SHeap := List (Option SB)
structure SSt where
  tmps : List SV
  h : SHeap

def SV.cells : SV → List SV
  | .agg cs => cs
  | v => [v]

/-! ### Trees of cases -/
inductive T (α : Type) where
  | leaf (a : α)
  | ite (c : Bool) (t e : T α)
  | need (c : Bool) (t : T α)
  | fail
def T.bind {α β : Type} : T α → (α → T β) → T β
  | .leaf a, f => f a
  | .ite c t e, f => .ite c (t.bind f) (e.bind f)
  | .need c t, f => .need c (t.bind f)
  | .fail, _ => .fail
def T.run {α : Type} : T α → Option α
  | .leaf a => some a
  | .ite c t e => if c then t.run else e.run
  | .need c t => if c then t.run else none
  | .fail => none
def T.ofO {α : Type} : Option α → T α
  | some a => .leaf a
  | none => .fail
def T.map {α β : Type} (f : α → β) (t : T α) : T β := t.bind fun a => .leaf (f a)

/-! ### Heaps -/
def sget (h : SHeap) (i : Nat) : Option SB := (h[i]?).getD none
def sset : SHeap → Nat → Option SB → SHeap
  | [], 0, b => [b]
  | [], i + 1, b => none :: sset [] i b
  | _ :: h, 0, b => b :: h
  | x :: h, i + 1, b => x :: sset h i b
def sputs (h : SHeap) : Nat → SHeap → SHeap
  | _, [] => h
  | i, b :: bs => sputs (sset h i b) (i + 1) bs
def sups (h : SHeap) : List (Nat × Option SB) → SHeap
  | [] => h
  | (i, b) :: r => sups (sset h i b) r

/-! ### Kinds -/
def kindF (k : TypeId → Option (List K)) : List Field → Option (List K)
  | [] => some []
  | f :: fs => match k f.type, kindF k fs with
    | some a, some b => some (a ++ b)
    | _, _ => none
def kindOf (P : Program) : Nat → TypeId → Option (List K)
  | 0, _ => none
  | d + 1, t => match P.underlying t with
    | some .bool => some [.bool]
    | some (.int k) => some [.int k]
    | some (.slice e) => (kindOf P d e).map fun ks => [.ro ks]
    | some (.struct fs) => kindF (kindOf P d) fs.toList
    | _ => none
mutual
def keq : K → K → Bool
  | .int a, .int b => a == b
  | .bool, .bool => true
  | .ro a, .ro b => keqs a b
  | _, _ => false
def keqs : List K → List K → Bool
  | [], [] => true
  | a :: as, b :: bs => keq a b && keqs as bs
  | _, _ => false
end
def dec : K → D → SV
  | .int k, d => .int k d.I
  | .bool, d => .bool d.B
  | .ro ks, d => .ro false ks d.L
def decFrom : List K → List D → Nat → List SV
  | [], _, _ => []
  | k :: ks, c, j => dec k (c.getD j default) :: decFrom ks c (j + 1)
def toD : K → SV → Option D
  | .int k, .int k' n => if k = k' then some (.i n) else none
  | .bool, .bool b => some (.b b)
  | .bool, .kb b => some (.b b)
  | .ro ks, .ro _ ks' l => if keqs ks ks' then some (.l l) else none
  | .ro _, .nils => some (.l [])
  | _, _ => none
def toDs : List K → List SV → Option (List D)
  | [], [] => some []
  | k :: ks, v :: vs => match toD k v, toDs ks vs with
    | some d, some ds => some (d :: ds)
    | _, _ => none
  | _, _ => none
def toDss (ks : List K) : List (List SV) → Option (List (List D))
  | [] => some []
  | e :: es => match toDs ks e, toDss ks es with
    | some d, some ds => some (d :: ds)
    | _, _ => none
def SV.asB : SV → Option Bool
  | .bool b => some b
  | .kb b => some b
  | _ => none
/-- Cells of which some are new. -/
def updC (c ds : List D) (j : Nat) : Nat → Nat → List D
  | _, 0 => []
  | q, n + 1 => (if j ≤ q ∧ q < j + ds.length then ds.getD (q - j) default else c.getD q default) :: updC c ds j (q + 1) n

/-! ### Values -/
def svOf1 : Value → SV
  | .bool b => .kb b
  | .int k n => .int k n
  | .pointer none => .nilp
  | .slice none 0 0 => .nils
  | .nilFunc => .nilf
  | .nilIface => .nili
  | _ => .any
def svOf : Value → SV
  | .agg cs => .agg (cs.toList.map svOf1)
  | v => svOf1 v
def a2s : AV → SV
  | .int k n => .int k n
  | .bool b => .kb b
  | .nilp => .nilp
  | .nils => .nils
  | .nilf => .nilf
  | .nili => .nili
  | _ => .any
def evS (ts : List SV) : Operand → SV
  | .tmp t => (ts[t]?).getD .und
  | .const v => svOf v
  | .global _ => .any
  | .func f => .fn (.func f) [] []

def idsS : Nat → SV → List Nat
  | 0, _ => []
  | f + 1, v => match v with
    | .ptr i _ _ _ => [i]
    | .sl i _ _ => [i]
    | .agg cs => cs.flatMap (idsS f)
    | .tup vs => vs.flatMap (idsS f)
    | .fn _ a c => a.flatMap (idsS f) ++ c.flatMap (idsS f)
    | .ifc _ x => idsS f x
    | _ => []
def idsSB : SB → List Nat
  | .box cs => cs.flatMap (idsS deep)
  | .row _ _ => []
  | .junk => []
def plainK : List K → Bool
  | [] => true
  | .ro _ :: _ => false
  | _ :: ks => plainK ks
def reachS (look : Nat → Option SB) : Nat → List Nat → List Nat → List Nat
  | 0, _, acc => acc.reverse
  | _ + 1, [], acc => acc.reverse
  | f + 1, i :: q, acc =>
    if acc.contains i then reachS look f q acc
    else match look i with
      | none => reachS look f q acc
      | some b => reachS look f (q ++ idsSB b) (i :: acc)
/-- Moved: own pointers renamed; what is immutable stays if kb. -/
def mvS (kb : Bool) (ρ : Nat → Option Nat) : Nat → SV → SV
  | 0, _ => .any
  | f + 1, v => match v with
    | .ptr i s k j => match ρ i with
      | some i' => .ptr i' s k j
      | none => .any
    | .sl i s n => match ρ i with
      | some i' => .sl i' s n
      | none => .any
    | .agg cs => .agg (cs.map (mvS kb ρ f))
    | .tup vs => .tup (vs.map (mvS kb ρ f))
    | .fn g a c => .fn g (a.map (mvS kb ρ f)) (c.map (mvS kb ρ f))
    | .ifc t x => .ifc t (mvS kb ρ f x)
    | .eptr cs => if kb then .eptr cs else .any
    | .ro c0 ks l => if kb then .ro c0 ks l else .any
    | v => v
def mvSB (kb : Bool) (ρ : Nat → Option Nat) : SB → SB
  | .box cs => .box (cs.map (mvS kb ρ deep))
  | .row ks l => if kb || plainK ks then .row ks l else .junk
  | .junk => .junk
/-- Lent. -/
def fzS (look : Nat → Option SB) : Nat → SV → SV
  | 0, _ => .any
  | f + 1, v => match v with
    | .ptr i s k j => match look i with
      | some (.box cs) => if cs.length = s ∧ k = 0 then .eptr ((cs.drop j).map (fzS look f)) else .any
      | _ => .any
    | .sl i s n => match look i with
      | some (.row ks l) => if ks.length = s ∧ f ≠ 0 then .ro false ks (l.take n) else .any
      | _ => .any
    | .agg cs => .agg (cs.map (fzS look f))
    | .fn g a c => .fn g (a.map (fzS look f)) (c.map (fzS look f))
    | .ifc t x => .ifc t (fzS look f x)
    | .tup _ => .any
    | v => v

/-- What must hold that it can be lent. -/
def fzN (look : Nat → Option SB) : Nat → SV → List Bool
  | 0, _ => []
  | f + 1, v => match v with
    | .ptr i s k j => match look i with
      | some (.box cs) => if cs.length = s ∧ k = 0 then (cs.drop j).flatMap (fzN look f) else []
      | _ => []
    | .sl i s n => match look i with
      | some (.row ks l) => if ks.length = s then [decide (n ≤ l.length)] else []
      | _ => []
    | .agg cs => cs.flatMap (fzN look f)
    | .fn _ a c => a.flatMap (fzN look f) ++ c.flatMap (fzN look f)
    | .ifc _ x => fzN look f x
    | _ => []
def T.needs {α : Type} : List Bool → T α → T α
  | [], t => t
  | c :: cs, t => .need c (T.needs cs t)

/-! ### Operations -/
inductive MS where
  | pure (v : SV)
  | newbox (cs : List SV)
  | newrow (ks : List K) (l : List (List D))
  | load (i s k j : Nat) (agg : Bool) (n : Nat)
  | store (i s k j : Nat) (cs : List SV)
  | append (a x : SV) (s bytes : Nat) (ks : List K)
  | copy (d x : SV) (s : Nat)
  | call (f : FuncId) (args : List SV)

def binIntS (op : BinOp) (k : IntKind) (a b : Int) : T SV := match op with
  | .add => .leaf (.int k (k.wrap (a + b)))
  | .sub => .leaf (.int k (k.wrap (a - b)))
  | .mul => .leaf (.int k (k.wrap (a * b)))
  | .quo => .need (!(b == 0)) (.leaf (.int k (k.wrap (a.tdiv b))))
  | .rem => .need (!(b == 0)) (.leaf (.int k (a.tmod b)))
  | .and => .leaf (.int k (k.wrap (BitVec.ofInt k.bits a &&& BitVec.ofInt k.bits b).toNat))
  | .or => .leaf (.int k (k.wrap (BitVec.ofInt k.bits a ||| BitVec.ofInt k.bits b).toNat))
  | .xor => .leaf (.int k (k.wrap (BitVec.ofInt k.bits a ^^^ BitVec.ofInt k.bits b).toNat))
  | .eql => .leaf (.bool (a == b))
  | .neq => .leaf (.bool (a != b))
  | .lss => .leaf (.bool (decide (a < b)))
  | .leq => .leaf (.bool (decide (a ≤ b)))
  | .gtr => .leaf (.bool (decide (a > b)))
  | .geq => .leaf (.bool (decide (a ≥ b)))
  | _ => .fail
def eqCellsS : List Bool → List SV → List SV → Option Bool
  | [], [], [] => some true
  | true :: ks, .int k a :: xs, .int k' b :: ys => if k = k' then (eqCellsS ks xs ys).map ((a == b) && ·) else none
  | false :: ks, x :: xs, y :: ys => match x.asB, y.asB with
    | some a, some b => (eqCellsS ks xs ys).map ((a == b) && ·)
    | _, _ => none
  | _, _, _ => none
def eqS (Ty : Option Ty) (x y : SV) : Option Bool := match x.asB, y.asB with
  | some a, some b => (match Ty with
    | some { kind := .bool, .. } => some (a == b)
    | _ => none)
  | _, _ => match x, y with
  | .agg xs, .agg ys => (match Ty with
    | some { eqOk := some ks, .. } => eqCellsS ks xs ys
    | _ => none)
  | x, y => (match Ty, x, y with
    | some { kind := .ptr _, .. }, .nilp, .nilp => some true
    | some { kind := .ptr _, .. }, .nilp, .ptr _ _ _ _ => some false
    | some { kind := .ptr _, .. }, .nilp, .eptr _ => some false
    | some { kind := .ptr _, .. }, .ptr _ _ _ _, .nilp => some false
    | some { kind := .ptr _, .. }, .eptr _, .nilp => some false
    | some { kind := .slice _, .. }, .nils, .nils => some true
    | some { kind := .slice _, .. }, .nils, .sl _ _ _ => some false
    | some { kind := .slice _, .. }, .sl _ _ _, .nils => some false
    | some { kind := .iface, .. }, .nili, .ifc _ _ => some false
    | some { kind := .iface, .. }, .ifc _ _, .nili => some false
    | _, _, _ => none)
def binS (Ty : Option Ty) (op : BinOp) (x y : SV) : T SV := match op, x, y with
  | .shl, .int k a, .int _ b => .need (!(decide (b < 0))) (.leaf (.int k (k.wrap (a * 2 ^ (min b.toNat k.bits)))))
  | .shr, .int k a, .int _ b => .need (!(decide (b < 0))) (.leaf (.int k (a.fdiv (2 ^ (min b.toNat k.bits)))))
  | op, .int k a, .int k' b => if k = k' then binIntS op k a b else .fail
  | .eql, x, y => T.ofO ((eqS Ty x y).map .bool)
  | .neq, x, y => T.ofO ((eqS Ty x y).map fun r => .bool !r)
  | _, _, _ => .fail
def unS (op : UnOp) (x : SV) : Option SV := match op, x with
  | .neg, .int k n => some (.int k (k.wrap (0 - n)))
  | .not, .bool b => some (.bool !b)
  | .not, .kb b => some (.kb !b)
  | _, _ => none
def evOS (ev : Operand → SV) (x : Option Operand) (dflt most : Nat) : T Nat := match x with
  | none => .leaf dflt
  | some x => match ev x with
    | .int _ n => .need (decide (0 ≤ n ∧ n ≤ (most : Int))) (.leaf n.toNat)
    | _ => .fail
def sliceS (size : Nat) (ev : Operand → SV) (x : SV) (lo hi mx : Option Operand) : T SV := match x with
  | .nils => if mx.isSome && hi.isNone then .fail else
    (evOS ev mx 0 0).bind fun _ => (evOS ev hi 0 0).bind fun _ => (evOS ev lo 0 0).bind fun _ => .leaf .nils
  | .ro c0 ks l => if mx.isSome && hi.isNone then .fail else if ks.length = size then
    (evOS ev mx l.length l.length).bind fun m => (evOS ev hi l.length m).bind fun h => (evOS ev lo 0 h).bind fun a =>
      .leaf (.ro (if mx.isSome then decide (m = h) else c0 && decide (h = l.length)) ks ((l.drop a).take (h - a))) else .fail
  | _ => .fail
def lenS : SV → Option Nat
  | .nils => some 0
  | .ro _ _ l => some l.length
  | .sl _ _ n => some n
  | _ => none
def foldS (f : Int → Int → Int) (k : IntKind) : List SV → Int → Option SV
  | [], a => some (.int k a)
  | .int k' b :: r, a => if k = k' then foldS f k r (f a b) else none
  | _, _ => none
def fillS (places : Nat → Option (Nat × Nat)) (cells : List SV) : List (Nat × SV) → Option (List SV)
  | [] => some cells
  | (_, .any) :: _ => none
  | (i, v) :: rest => match places i with
    | none => none
    | some (off, size) => if v.cells.length = size ∧ off + size ≤ cells.length
      then fillS places (cells.take off ++ v.cells ++ cells.drop (off + size)) rest else none
def chunksS (s : Nat) : Nat → List SV → List (List SV)
  | 0, _ => []
  | n + 1, cs => cs.take s :: chunksS s n (cs.drop s)

def planBS (C : Cfg) (ev : Operand → SV) (b : Builtin) (args : List Operand) (ts : List TypeId) : T MS := match b, args, ts with
  | .len, [x], [t] => (match C.ty t with
    | some { kind := .slice _, .. } => T.ofO ((lenS (ev x)).map fun (n : Nat) => MS.pure (.int .i64 (n : Int)))
    | some { kind := .array n _ _, .. } => .leaf (.pure (.int .i64 n))
    | _ => .fail)
  | .min, x :: r, _ => (match ev x with
    | .int k a => T.ofO ((foldS (fun a b => if b < a then b else a) k (r.map ev) a).map .pure)
    | _ => .fail)
  | .max, x :: r, _ => (match ev x with
    | .int k a => T.ofO ((foldS (fun a b => if b > a then b else a) k (r.map ev) a).map .pure)
    | _ => .fail)
  | .append, [a, x], [t, u] => (match C.ty t, C.ty u with
    | some { kind := .slice e, .. }, some { kind := .slice _, .. } => (match C.ty e, kindOf C.P 12 e with
      | some { size := s, bytes := by_, zero := some z, .. }, some ks => if z.length = s ∧ ks.length = s then .leaf (.append (ev a) (ev x) s by_ ks) else .fail
      | _, _ => .fail)
    | _, _ => .fail)
  | .copy, [d, x], [t, u] => (match C.ty t, C.ty u with
    | some { kind := .slice e, .. }, some { kind := .slice _, .. } => (match C.ty e with
      | some te => .leaf (.copy (ev d) (ev x) te.size)
      | none => .fail)
    | _, _ => .fail)
  | _, _, _ => .fail

def planS (C : Cfg) (ev : Operand → SV) (o : Oper) : T MS := match o.op with
  | .move x => .leaf (.pure (ev x))
  | .assign x => .leaf (.pure (ev x))
  | .pick c a b => (match ev c with
    | .bool t => (match (ev a).asB, (ev b).asB with
      | some x, some y => .leaf (.pure (.bool (if t then x else y)))
      | _, _ => .ite t (.leaf (.pure (ev a))) (.leaf (.pure (ev b))))
    | .kb t => .leaf (.pure (if t then ev a else ev b))
    | _ => .fail)
  | .alloc t => (match C.ty t with
    | some { zero := some z, .. } => .leaf (.newbox (z.map a2s))
    | _ => .fail)
  | .box _ x => (match ev x with
    | .any => .fail
    | v => .leaf (.newbox v.cells))
  | .build t parts => (match C.ty t with
    | some { kind := .struct fs, zero := some z, .. } =>
      T.ofO ((fillS (fun i => (fs[i]?).map fun f => (f.1, f.2.1)) (z.map a2s) (parts.toList.map fun p => (p.1, ev p.2))).map fun cs => .pure (.agg cs))
    | some { kind := .array _ es _, zero := some z, .. } =>
      T.ofO ((fillS (fun i => some (i * es, es)) (z.map a2s) (parts.toList.map fun p => (p.1, ev p.2))).map fun cs => .pure (.agg cs))
    | _ => .fail)
  | .buildSlice t len parts => (match C.ty t with
    | some { kind := .slice e, .. } => (match C.ty e, kindOf C.P 12 e with
      | some { size := s, zero := some z, .. }, some ks => if len * s ≤ 2 ^ 20 ∧ z.length = s ∧ ks.length = s then
          (match fillS (fun i => some (i * s, s)) (List.replicate len (z.map a2s)).flatten (parts.toList.map fun p => (p.1, ev p.2)) with
          | some cs => T.ofO ((toDss ks (chunksS s len cs)).map fun l => .newrow ks l)
          | none => .fail)
        else .fail
      | _, _ => .fail)
    | _ => .fail)
  | .load t a => (match C.ty t with
    | some ty => (match ev a with
      | .ptr i s k j => .leaf (.load i s k j ty.agg ty.size)
      | .eptr cs => if ty.agg then (if ty.size ≤ cs.length then .leaf (.pure (.agg (cs.take ty.size))) else .fail) else T.ofO ((cs.head?).map .pure)
      | _ => .fail)
    | none => .fail)
  | .store t a x => (match C.ty t with
    | some ty => (match ev a, ev x with
      | .ptr _ _ _ _, .any => .fail
      | .ptr i s k j, v => if v.cells.length = ty.size then .leaf (.store i s k j v.cells) else .fail
      | _, _ => .fail)
    | none => .fail)
  | .nilCheck x => (match ev x with
    | .ptr i s k j => .leaf (.pure (.ptr i s k j))
    | .eptr cs => .leaf (.pure (.eptr cs))
    | .fn (.func f) a c => .leaf (.pure (.fn (.func f) a c))
    | _ => .fail)
  | .binOp op t x y _ => (binS (C.ty t) op (ev x) (ev y)).map .pure
  | .unOp op _ x => T.ofO ((unS op (ev x)).map .pure)
  | .convert s d x => (match C.ty s, C.ty d, ev x with
    | some { kind := .int _, .. }, some { kind := .int k, .. }, .int _ n => .leaf (.pure (.int k (k.wrap n)))
    | _, _, _ => .fail)
  | .makeInterface t x => (match C.ty t with
    | some { kind := .iface, .. } => .fail
    | some _ => .leaf (.pure (.ifc t (ev x)))
    | none => .fail)
  | .makeFunc f a c => .leaf (.pure (.fn f (a.toList.map ev) (c.toList.map ev)))
  | .makeSlice t l c => (match C.ty t, ev l, ev c with
    | some { kind := .slice e, .. }, .int .i64 n, .int .i64 m => (match C.ty e, kindOf C.P 12 e with
      | some { size := s, bytes := by_, zero := some z, .. }, some ks => (match toDs ks (z.map a2s) with
        | some d => if z.length = s ∧ 0 < s ∧ ks.length = s then .need (decide (0 ≤ n ∧ n = m ∧ n ≤ 2 ^ 40 ∧ by_ * n ≤ 2 ^ 46)) (.leaf (.newrow ks (List.replicate n.toNat d))) else .fail
        | none => .fail)
      | _, _ => .fail)
    | _, _, _ => .fail)
  | .slice t x lo hi mx => (match C.ty t with
    | some { kind := .slice e, .. } => (match C.ty e with
      | some te => (sliceS te.size ev (ev x) lo hi mx).map .pure
      | none => .fail)
    | _ => .fail)
  | .fieldAddr t x f => (match C.ty t with
    | some { kind := .struct fs, .. } => (match fs[f]? with
      | some (off, sz, _) => if sz = 0 then .fail else (match ev x with
        | .ptr i s k j => .leaf (.pure (.ptr i s k (j + off)))
        | .eptr cs => .leaf (.pure (.eptr (cs.drop off)))
        | _ => .fail)
      | none => .fail)
    | _ => .fail)
  | .field t x f => (match C.ty t, ev x with
    | some { kind := .struct fs, .. }, .agg cs => (match fs[f]? with
      | some (off, sz, true) => if off + sz ≤ cs.length then .leaf (.pure (.agg ((cs.drop off).take sz))) else .fail
      | some (off, _, false) => T.ofO ((cs[off]?).map .pure)
      | none => .fail)
    | _, _ => .fail)
  | .indexAddr t x ix => (match C.ty t, ev ix with
    | some { kind := .slice e, .. }, .int _ n => (match C.ty e, ev x with
      | some te, .ro _ ks l => if ks.length = te.size then .need (decide (0 ≤ n ∧ n < (l.length : Int))) (.leaf (.pure (.eptr (decFrom ks (l.getD n.toNat []) 0)))) else .fail
      | some te, .sl i s m => if s = te.size then .need (decide (0 ≤ n ∧ n < (m : Int))) (.leaf (.pure (.ptr i s n.toNat 0))) else .fail
      | _, _ => .fail)
    | _, _ => .fail)
  | .extract x i => (match ev x with
    | .tup vs => T.ofO ((vs[i]?).map .pure)
    | _ => .fail)
  | .call c => (match c.callee with
    | .builtin b => planBS C ev b c.args.toList c.argTypes.toList
    | .value f => (match ev f with
      | .fn (.func g) a cp => .leaf (.call g (a ++ c.args.toList.map ev ++ cp))
      | _ => .fail)
    | .invoke _ _ => .fail)
  | _ => .fail

def contentsS (look : Nat → Option SB) (ks : List K) : SV → T (List (List D))
  | .nils => .leaf []
  | .ro _ ks' l => if keqs ks ks' then .leaf l else .fail
  | .sl i s n => match look i with
    | some (.row ks' l) => if keqs ks ks' ∧ s = ks.length then .need (decide (n ≤ l.length)) (.leaf (l.take n)) else .fail
    | _ => .fail
  | _ => .fail
def okS : SV → Bool
  | .any => false
  | .und => false
  | .agg _ => false
  | .tup _ => false
  | _ => true
def okSL : List SV → Bool
  | [] => true
  | c :: cs => okS c && okSL cs

structure RS where
  v : SV
  ups : List (Nat × Option SB)
  news : SHeap
def handBackS (at_ : Nat) (nh : SHeap) : SHeap := nh.map fun b => b.map (mvSB true (back [] at_))

structure Tab where
  sp : FuncId → Option (List SV → T (SV × SHeap))
  lp : FuncId → Nat → Option (SSt → T (Ex × SSt))

def actS (C : Cfg) (tab : Tab) (at_ : Nat) (look : Nat → Option SB) : MS → T RS
  | .pure v => .leaf ⟨v, [], []⟩
  | .newbox cs => if okSL cs then .leaf ⟨.ptr at_ cs.length 0 0, [], [some (.box cs)]⟩ else .fail
  | .newrow ks l => .leaf ⟨.sl at_ ks.length l.length, [], [some (.row ks l)]⟩
  | .load i s k j agg n => match look i with
    | some (.box cs) => if cs.length = s ∧ k = 0 then
        (if agg then (if j + n ≤ cs.length then .leaf ⟨.agg ((cs.drop j).take n), [], []⟩ else .fail)
        else (match cs[j]? with
          | some v => .leaf ⟨v, [], []⟩
          | none => .fail)) else .fail
    | some (.row ks l) => if ks.length = s then .need (decide (k < l.length))
        (if agg then (if j + n ≤ ks.length then .leaf ⟨.agg (((decFrom ks (l.getD k []) 0).drop j).take n), [], []⟩ else .fail)
        else (match (decFrom ks (l.getD k []) 0)[j]? with
          | some v => .leaf ⟨v, [], []⟩
          | none => .fail)) else .fail
    | _ => .fail
  | .store i s k j vs => match look i with
    | some (.box cs) => if cs.length = s ∧ k = 0 then
        (if j + vs.length ≤ cs.length ∧ okSL vs = true then .leaf ⟨.und, [(i, some (.box (cs.take j ++ vs ++ cs.drop (j + vs.length))))], []⟩ else .fail) else .fail
    | some (.row ks l) => if ks.length = s then
        (match toDs ((ks.drop j).take vs.length) vs with
        | some ds => if j + vs.length ≤ ks.length then .need (decide (k < l.length)) (.leaf ⟨.und, [(i, some (.row ks (l.set k (updC (l.getD k []) ds j 0 ks.length))))], []⟩) else .fail
        | none => .fail) else .fail
    | _ => .fail
  | .append a x s by_ ks => (contentsS look ks x).bind fun xs => match a with
      | .nils => .ite xs.isEmpty (.leaf ⟨.nils, [], []⟩)
          (if 0 < s then .need (decide (xs.length ≤ 2 ^ 40 ∧ xs.length * by_ ≤ 2 ^ 46)) (.leaf ⟨.sl at_ s xs.length, [], [some (.row ks xs)]⟩) else .fail)
      | .ro c0 ks' es => if keqs ks ks' then .ite xs.isEmpty (.leaf ⟨.ro c0 ks' es, [], []⟩)
          (if 0 < s then .need (c0 && decide (es.length + xs.length ≤ 2 ^ 40 ∧ (es.length + xs.length) * by_ ≤ 2 ^ 46)) (.leaf ⟨.sl at_ s (es.length + xs.length), [], [some (.row ks (es ++ xs))]⟩) else .fail) else .fail
      | .sl i s' n => (match look i with
          | some (.row ks' l) => if keqs ks ks' ∧ s' = s ∧ 0 < s then .ite xs.isEmpty (.leaf ⟨.sl i s' n, [], []⟩)
              (.need (decide (n ≤ l.length ∧ n + xs.length ≤ 2 ^ 40 ∧ (n + xs.length) * by_ ≤ 2 ^ 46)) (.leaf ⟨.sl at_ s (n + xs.length), [(i, none)], [some (.row ks (l.take n ++ xs))]⟩)) else .fail
          | _ => .fail)
      | _ => .fail
  | .copy _ _ _ => .fail
  | .call f args => match C.ext f, C.wr f, tab.sp f with
    | none, [], some F => T.needs (args.flatMap (fzN look deep)) ((F (args.map (fzS look deep))).map fun r => ⟨mvS true (back [] at_) deep r.1, [], handBackS at_ r.2⟩)
    | _, _, _ => .fail

def putS (dst : Option Tmp) (v : SV) (ts : List SV) : List SV := match dst with
  | none => ts
  | some d => ts.set d v
def wantedS (ops : Array Oper) (ts : List SV) (o : Oper) : T (Bool × List SV) := match o.guard with
  | none => .leaf (true, ts)
  | some (j, want) => match (ops[j]?).bind (·.dst) with
    | none => .fail
    | some d => match ts[d]? with
      | some (.bool b) => .ite b (.leaf (want, ts.set d (.kb true))) (.leaf (!want, ts.set d (.kb false)))
      | some (.kb b) => .leaf (b == want, ts)
      | some .und => .leaf (false, ts)
      | _ => .fail

def stepS (C : Cfg) (tab : Tab) (ops : Array Oper) (o : Oper) (σ : SSt) : T SSt :=
  (wantedS ops σ.tmps o).bind fun w => match w.1 with
    | false => .leaf { σ with tmps := putS o.dst .und w.2 }
    | true => (planS C (evS w.2) o).bind fun ma => (actS C tab σ.h.length (sget σ.h) ma).bind fun r =>
      .leaf { tmps := putS o.dst r.v w.2, h := sputs (sups σ.h r.ups) σ.h.length r.news }
def runS (C : Cfg) (tab : Tab) (ops : Array Oper) : List Oper → SSt → T SSt
  | [], σ => .leaf σ
  | o :: r, σ => (stepS C tab ops o σ).bind fun σ' => runS C tab ops r σ'

def sidS : SV → List Nat
  | .sl i _ _ => [i]
  | _ => []
def touchS (C : Cfg) : MS → Touch
  | .pure _ => ⟨0, []⟩
  | .newbox _ => ⟨0, []⟩
  | .newrow _ _ => ⟨0, []⟩
  | .load i _ _ _ _ _ => ⟨1, [i]⟩
  | .store i _ _ _ _ => ⟨2, [i]⟩
  | .append a x _ _ _ => ⟨2, sidS a ++ sidS x⟩
  | .copy a x _ => ⟨2, sidS a ++ sidS x⟩
  | .call f _ => match C.ext f, C.wr f with
    | none, _ :: _ => ⟨4, []⟩
    | _, _ => ⟨3, []⟩
def runDS (C : Cfg) (tab : Tab) (ops : Array Oper) (deps : Array Nat) (m : Nat) : List (Oper × Nat) → List Done → SSt → T SSt
  | [], _, σ => .leaf σ
  | (o, i) :: r, done, σ => (wantedS ops σ.tmps o).bind fun w => match w.1 with
    | false => runDS C tab ops deps m r done { σ with tmps := putS o.dst .und w.2 }
    | true => (planS C (evS w.2) o).bind fun ma =>
      if done.any (fun d => !((deps.getD i 0).testBit d.i) && clash d.t (touchS C ma)) then .fail else
      (actS C tab σ.h.length (fun id => if visible m done (deps.getD i 0) id && (decide ((touchS C ma).cls = 3 ∨ (touchS C ma).cls = 4) || (touchS C ma).is.contains id) then sget σ.h id else none) ma).bind fun res =>
        runDS C tab ops deps m r (⟨i, touchS C ma, σ.h.length, res.news.length⟩ :: done) { tmps := putS o.dst res.v w.2, h := sputs (sups σ.h res.ups) σ.h.length res.news }

def keepOnlyS (live : List Nat) (i : Nat) : List SV → List SV
  | [] => []
  | v :: vs => (if live.contains i then v else .any) :: keepOnlyS live (i + 1) vs
def gcListS (k : Nat) (vs : List SV) (h : SHeap) : List Nat :=
  let R := reachS (sget h) wide (List.range k ++ vs.flatMap (idsS deep)) []
  List.range k ++ R.filter (fun i => !(decide (i < k)))
def gcHeapS (kb : Bool) (R : List Nat) (h : SHeap) : SHeap := R.map fun i => (sget h i).map (mvSB kb (pos R))
def normS (k : Nat) (live : List Nat) (σ : SSt) : SSt :=
  let ts := keepOnlyS live 0 σ.tmps
  let R := gcListS k ts σ.h
  { tmps := ts.map (mvS true (pos R) deep), h := gcHeapS true R σ.h }
def gcOfS (C : Cfg) (k : Nat) (f : FuncId) (body : Code) : SSt → SSt := match C.ann f (keyOf body) with
  | some live => normS k live
  | none => id

def execS (C : Cfg) (tab : Tab) (f : FuncId) : Code → SSt → T (Ex × SSt)
  | .skip, σ => .leaf (.normal, σ)
  | .label _, σ => .leaf (.normal, σ)
  | .region _ ops draw, σ =>
    (match draw with
    | true => runDS C tab ops (Region.before ops) σ.h.length (ops.toList.zip (List.range ops.size)) [] σ
    | false => runS C tab ops ops.toList σ).bind fun σ' => .leaf (.normal, σ')
  | .seq a b, σ => (execS C tab f a σ).bind fun r => match r.1 with
    | .normal => execS C tab f b r.2
    | _ => .leaf r
  | .cond c a b, σ => match evS σ.tmps c with
    | .bool t => .ite t (execS C tab f a σ) (execS C tab f b σ)
    | .kb t => (match t with
      | true => execS C tab f a σ
      | false => execS C tab f b σ)
    | _ => .fail
  | .block id b, σ => (execS C tab f b σ).bind fun r => match r.1 with
    | .exit id' => .leaf (if id' = id then .normal else .exit id', r.2)
    | _ => .leaf r
  | .loop b, σ => match tab.lp f (keyOf b) with
    | some L => L σ
    | none => .fail
  | .scope b, σ => execS C tab f b σ
  | .exit id, σ => .leaf (.exit id, σ)
  | .ret, σ => .leaf (.ret, σ)
  | _, _ => .fail

def loadRS (h : SHeap) (C : Cfg) (v : SV) (t : TypeId) : Option SV := match C.ty t, v with
  | some ty, .ptr i s q j => (match sget h i with
    | some (.box cs) => if cs.length = s ∧ q = 0 then (if ty.agg then (if j + ty.size ≤ cs.length then some (.agg ((cs.drop j).take ty.size)) else none) else cs[j]?) else none
    | _ => none)
  | _, _ => none
def resultsS (C : Cfg) (σ : SSt) : List ResultVar → Option (List SV)
  | [] => some []
  | .tmp t :: r => match resultsS C σ r with
    | some vs => some (((σ.tmps[t]?).getD .und) :: vs)
    | none => none
  | .cell a t :: r => match loadRS σ.h C ((σ.tmps[a]?).getD .und) t, resultsS C σ r with
    | some v, some vs => some (v :: vs)
    | _, _ => none
def oneOfS : List SV → SV
  | [v] => v
  | vs => .tup vs
def finishS (C : Cfg) (fn : Func) (σ : SSt) : Option (SV × SHeap) :=
  match resultsS C σ fn.results.toList with
  | none => none
  | some vs =>
    let v := oneOfS vs
    let R := gcListS 0 [v] σ.h
    some (mvS false (pos R) deep v, gcHeapS false R σ.h)
/-- A function's body, its calls and loops by the table. -/
def callS (C : Cfg) (tab : Tab) (f : FuncId) (args : List SV) : T (SV × SHeap) := match C.P.funcs[f]? with
  | none => .fail
  | some fn => match fn.body with
    | none => .fail
    | some c => (execS C tab f c { tmps := args ++ List.replicate (fn.ntmps - args.length) .und, h := [] }).bind fun r => match r.1 with
      | .exit _ => .fail
      | _ => T.ofO (finishS C fn r.2)
end Go.Lite
