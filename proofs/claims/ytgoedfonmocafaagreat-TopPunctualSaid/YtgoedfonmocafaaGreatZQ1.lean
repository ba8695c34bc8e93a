/-
 What the claim top_punctual rests on,part 1.
-/
import Derived.RangeFuncIn
import Derived.OrdersIn
import Derived.KernelRfl
import Derived.WalkKit
import Derived.Deep.AppendSrc
import Derived.Laws.CopyRow
import Derived.MapKept
import Derived.Deep.Upon
noncomputable section
namespace Go.Lite
inductive Kd where
 | g | b | n
 deriving DecidableEq
inductive AV where
 | any
 | und
 | int (k:IntKind) (n:Int)
 | bool (b:Bool)
 | agg (cs:List AV)
 | tup (vs:List AV)
 | nilp
 | ptr (i s k j:Nat)
 | eptr (kd:Kd) (cs:List AV)
 | nils
 | ro (kd:Kd) (c0:Bool) (s:Nat) (es:List (List AV))
 | sl (i s lo n:Nat) (cap:Option Nat)
 | nilf
 | fn (f:Fn) (first caps:List AV)
 | yl
 | nili
 | ifc (t:TypeId) (v:AV)
 | nilm
 | mp (i:Nat)
 /-- not a value: a call that panics, with an empty struct of this type -/
 | pan (t:TypeId)
abbrev i64 (n:Int):AV:=.int .i64 n
def AV.cells:AV->List AV
 | .agg cs=>cs
 | v=>[v]
inductive Blk where
 | row (s:Nat) (es:List (List AV)) (flat:Bool)
 | map (kvs:List (AV×AV))
abbrev xap:=List (Option Blk)
def xag (h:xap) (i:Nat):Option Blk:=(h[i]?).getD none
def xb7:xap->Nat->Option Blk->xap
 | [],0,b=>[b]
 | [],i+1,b=>none::xb7 [] i b
 | _::h,0,b=>b::h
 | x::h,i+1,b=>x::xb7 h i b
def xdn (h:xap):Nat->xap->xap
 | _,[]=>h
 | i,b::bs=>xdn (xb7 h i b) (i+1) bs
def xcn (h:xap):List (Nat×Option Blk)->xap
 | []=>h
 | (i,b)::r=>xcn (xb7 h i b) r
def xak:Nat:=12
def wide:Nat:=4000
def ids:Nat->AV->List Nat
 | 0,_=>[]
 | f + 1,v=>match v with
   | .ptr i _ _ _=>[i]
   | .sl i _ _ _ _=>[i]
   | .mp i=>[i]
   | .agg cs=>cs.flatMap (ids f)
   | .tup vs=>vs.flatMap (ids f)
   | .fn _ a c=>a.flatMap (ids f)++c.flatMap (ids f)
   | .ifc _ x=>ids f x
   | .pan _=>[0]
   | _=>[]
def xql:Blk->List Nat
 | .row _ es flat=>if flat then [] else es.flatMap fun e=>e.flatMap (ids xak)
 | .map kvs=>kvs.flatMap fun p=>ids xak p.1++ids xak p.2
def xfo (look:Nat->Option Blk):Nat->List Nat->List Nat->List Nat
 | 0,_,acc=>acc.reverse
 | _+1,[],acc=>acc.reverse
 | f + 1,i::q,acc=>
   if acc.contains i then xfo look f q acc
   else match look i with
    | none=>xfo look f q acc
    | some b=>xfo look f (q++xql b) (i::acc)
def pos:List Nat->Nat->Option Nat
 | [],_=>none
 | x::xs,i=>if x=i then some 0 else (pos xs i).map (·+1)
def mv (kb ky:Bool) (ρ:Nat->Option Nat):Nat->AV->AV
 | 0,_=>.any
 | f + 1,v=>match v with
   | .ptr i s k j=>match ρ i with
     | some i'=>.ptr i' s k j
     | none=>.any
   | .sl i s lo n cap=>match ρ i with
     | some i'=>.sl i' s lo n cap
     | none=>.any
   | .mp i=>match ρ i with
     | some i'=>.mp i'
     | none=>.any
   | .agg cs=>.agg (cs.map (mv kb ky ρ f))
   | .tup vs=>.tup (vs.map (mv kb ky ρ f))
   | .fn g a c=>.fn g (a.map (mv kb ky ρ f)) (c.map (mv kb ky ρ f))
   | .ifc t x=>.ifc t (mv kb ky ρ f x)
   | .eptr .g cs=>.eptr .g cs
   | .ro .g c0 s es=>.ro .g c0 s es
   | .eptr kd cs=>if kb then .eptr kd cs else .any
   | .ro kd c0 s es=>if kb then .ro kd c0 s es else .any
   | .yl=>if ky then .yl else .any
   | .any=>.any
   | .und=>.und
   | .int k n=>.int k n
   | .bool b=>.bool b
   | .nilp=>.nilp
   | .nils=>.nils
   | .nilf=>.nilf
   | .nili=>.nili
   | .nilm=>.nilm
   | .pan t=>.pan t
def mvB (kb ky:Bool) (ρ:Nat->Option Nat):Blk->Blk
 | .row s es flat=>if flat then .row s es true else .row s (es.map fun e=>e.map (mv kb ky ρ xak)) false
 | .map kvs=>.map (kvs.map fun p=>(mv kb ky ρ xak p.1,mv kb ky ρ xak p.2))
def fz (look:Nat->Option Blk):Nat->AV->AV
 | 0,_=>.any
 | f + 1, v=>match v with
   | .ptr i s k j=>match look i with
     | some (.row s' es flat)=>if s'=s then match es[k]? with
         | some cs=>if flat then .eptr .b (cs.drop j) else .eptr .n ((cs.drop j).map (fz look f))
         | none=>.any
       else .any
     | _=>.any
   | .sl i s lo n cap=>match look i with
     | some (.row s' es flat)=>if s'=s/\lo+n<=es.length then
         (if flat then .ro .b (cap == some n) s ((es.drop lo).take n) else .ro .n (cap == some n) s (((es.drop lo).take n).map fun e=>e.map (fz look f)))
       else .any
     | _=>.any
   | .agg cs=>.agg (cs.map (fz look f))
   | .fn g a c=>.fn g (a.map (fz look f)) (c.map (fz look f))
   | .ifc t x=>.ifc t (fz look f x)
   | .tup _=>.any
   | .mp _=>.any
   | .yl=>.any
   | .eptr kd cs=>.eptr kd cs
   | .ro kd c0 s es=>.ro kd c0 s es
   | .any=>.any
   | .und=>.und
   | .int k n=>.int k n
   | .bool b=>.bool b
   | .nilp=>.nilp
   | .nils=>.nils
   | .nilf=>.nilf
   | .nili=>.nili
   | .nilm=>.nilm
   | .pan _=>.any
def fzg (look:Nat->Option Blk):Nat->AV->AV
 | 0,_=>.any
 | f + 1, v=>match v with
   | .ptr i s k j=>match look i with
     | some (.row s' es _)=>if s'=s then match es[k]? with
         | some cs=>.eptr .g ((cs.drop j).map (fzg look f))
         | none=>.any
       else .any
     | _=>.any
   | .sl i s lo n cap=>match look i with
     | some (.row s' es _)=>if s'=s/\lo+n<=es.length then .ro .g (cap == some n) s (((es.drop lo).take n).map fun e=>e.map (fzg look f)) else .any
     | _=>.any
   | .agg cs=>.agg (cs.map (fzg look f))
   | .tup vs=>.tup (vs.map (fzg look f))
   | .fn g a c=>.fn g (a.map (fzg look f)) (c.map (fzg look f))
   | .ifc t x=>.ifc t (fzg look f x)
   | .eptr .g cs=>.eptr .g cs
   | .ro .g c0 s es=>.ro .g c0 s es
   | .und=>.und
   | .int k n=>.int k n
   | .bool b=>.bool b
   | .nilp=>.nilp
   | .nils=>.nils
   | .nilf=>.nilf
   | .nili=>.nili
   | .nilm=>.nilm
   | _=>.any
def fzk (look:Nat->Option Blk):Nat->AV->AV
 | 0,_=>.any
 | f + 1,v=>match v with
   | .ptr i s k j=>fzg look (f+1) (.ptr i s k j)
   | .sl i s lo n cap=>fzg look (f+1) (.sl i s lo n cap)
   | .agg cs=>.agg (cs.map (fzk look f))
   | v=>v
structure St where
 tmps:List AV
 h : xap
def xhd (k:Nat) (vs:List AV) (h:xap):List Nat:=
 let R:=xfo (xag h) wide (List.range k++vs.flatMap (ids xak)) []
 List.range k++R.filter (fun i=>!(decide (i<k)))
def xpb (kb ky:Bool) (R:List Nat) (h:xap):xap:=R.map fun i=>(xag h i).map (mvB kb ky (pos R))
def xii (live:List Nat) (i:Nat):List AV->List AV
 | []=>[]
 | v::vs=>(if live.contains i then v else .any)::xii live (i+1) vs
def xig (k:Nat) (live:List Nat) (σ:St):St:=
 let ts:=xii live 0 σ.tmps
 let R:=xhd k ts σ.h
 { tmps:=ts.map (mv true true (pos R) xak),h:=xpb true true R σ.h }
inductive TK where
 | int (k:IntKind)
 | bool
 | slice (e:TypeId)
 | ptr (e:TypeId)
 | struct (fs:List (Nat×Nat×Bool))
 | array (n es:Nat) (ea:Bool)
 | iface
 | func
 | map (k e:TypeId)
 | other
structure Ty where
 kind:TK
 agg:Bool
 size:Nat
 bytes:Nat
 zero:Option (List AV)
 eqOk:Option (List Bool)
def xkq:Value->AV
 | .bool b=>.bool b
 | .int k n=>.int k n
 | .pointer none=>.nilp
 | .slice none 0 0=>.nils
 | .nilFunc=>.nilf
 | .nilIface=>.nili
 | .map none=>.nilm
 | _=>.any
def xJg:Value->AV
 | .agg cs=>.agg (cs.toList.map xkq)
 | v=>xkq v
def xeb (P:Program) (t:TypeId):Bool:=match P.underlying t with
 | some (.struct _)=>true
 | some (.array _ _)=>true
 | _=>false
def xmf (P:Program) (t:TypeId):Bool:=(P.info? t).isSome && (P.underlying t).isSome
def xef (P:Program) (t:TypeId):TK:=match P.underlying t with
 | some (.int k)=>.int k
 | some .bool=>.bool
 | some (.slice e)=>.slice e
 | some (.pointer e)=>.ptr e
 | some (.struct fs)=>if fs.toList.all (fun f=>xmf P f.type) then .struct (fs.toList.map fun f=>(f.offset,P.cellsOf f.type,xeb P f.type)) else .other
 | some (.array n e)=>if xmf P e then .array n (P.cellsOf e) (xeb P e) else .other
 | some (.interface _)=>.iface
 | some (.func _ _ _)=>.func
 | some (.map k e)=>.map k e
 | _=>.other
def xdd (P:Program):List Field->Nat->Option (List Bool)
 | [],_=>some []
 | f :: fs, i => if f.name != "_" && f.offset == i then (match P.underlying f.type with
     | some (.int _)=>(xdd P fs (i+1)).map (true::·)
     | some .bool=>(xdd P fs (i+1)).map (false::·)
     | _=>none) else none
def xy0 (P:Program) (t:TypeId):Option (List Bool):=match P.underlying t with
 | some (.struct fs)=>if !P.stoodInHeld t && !P.eqGuardType P.depth t then xdd P fs.toList 0 else none
 | _=>none
def xcc (P:Program) (t:TypeId):Option Ty:=match P.info? t,P.underlying t with
 | some i,some _=>some { kind:=xef P t,agg:=xeb P t,size:=i.size,bytes:=i.bytes,zero:=i.zero.map fun v=>v.cells.toList.map xkq,eqOk:=xy0 P t }
 | _,_=>none
structure Cfg where
 P : Program
 ty:TypeId->Option Ty
 /-- which arguments a function may write to (captured ones too, behind the others) -/
 wr:FuncId->List Bool
 /-- the xzj that live at a loop's head, by the loop's first region -/
 ann:FuncId->Nat->Option (List Nat)
 /-- the xzj that live where a loop is left: by an exit, or (none) by a return -/
 annX:FuncId->Nat->Option Nat->Option (List Nat)
 fuel:Nat
 /-- functions whose results are kept for ever -/
 frz:FuncId->Bool
 /-- ranges over functions (by the function and the body's first region) that give back the blocks that are yielded -/
 give:FuncId->Nat->Bool
 ext:FuncId->Option (List AV->Option AV)
 /-- the types that values of an interface type have, where slices of them are built -/
 alts:TypeId->List TypeId:=fun _=>[]
 /-- xzj whose own memory is kept for ever from now on, ahead of an operation -/
 fzo:Oper->List Nat:=fun _=>[]
inductive MA where
 | pure (v:AV)
 | newp (s:Nat) (e:List AV)
 | news (s:Nat) (es:List (List AV)) (n cap:Nat)
 | newe (s:Nat)
 | load (i s k j:Nat) (agg:Bool) (n:Nat)
 | store (i s k j:Nat) (cs:List AV)
 | append (a x:AV) (s bytes:Nat)
 | copy (d x:AV) (s:Nat)
 | call (f:FuncId) (args:List AV)
 | callp (f:FuncId) (i s k j:Nat) (agg:Bool) (n:Nat) (args:List AV)
 | yld (args:List AV)
 | newm
 | mlen (i:Nat)
 | mget (i:Nat) (T:Option Ty) (k:AV) (zero:AV) (ok:Bool)
 | mset (i:Nat) (T:Option Ty) (k v:AV)
 | mdel (i:Nat) (T:Option Ty) (k:AV)
 | pan (t:TypeId)
def xz3 (P:Program) (t:TypeId) (name:String):Option (FuncId×Option TypeId):=match P.info? t,P.underlying t with
 | some i,some u=>(match i.methods.find? (·.name == name) with
   | some m=>if m.path.isEmpty then (match m.func,u with
       | some (f,true),.pointer _=>some (f,none)
       | some (f,false),.pointer e=>some (f,some e)
       | some (f,false),_=>some (f,none)
       | _,_=>none) else none
   | none=>none)
 | _,_=>none
def xvc (op:BinOp) (k:IntKind) (a b:Int):Option AV:=match op with
 | .add=>some (.int k (k.wrap (a+b)))
 | .sub=>some (.int k (k.wrap (a - b)))
 | .mul=>some (.int k (k.wrap (a*b)))
 | .quo=>if b=0 then none else some (.int k (k.wrap (a.tdiv b)))
 | .rem=>if b=0 then none else some (.int k (a.tmod b))
 | .and=>some (.int k (k.wrap (BitVec.ofInt k.bits a &&& BitVec.ofInt k.bits b).toNat))
 | .or=>some (.int k (k.wrap (BitVec.ofInt k.bits a ||| BitVec.ofInt k.bits b).toNat))
 | .xor=>some (.int k (k.wrap (BitVec.ofInt k.bits a ^^^ BitVec.ofInt k.bits b).toNat))
 | .eql=>some (.bool (a == b))
 | .neq=>some (.bool (a != b))
 | .lss=>some (.bool (decide (a<b)))
 | .leq=>some (.bool (decide (a<=b)))
 | .gtr=>some (.bool (decide (a > b)))
 | .geq=>some (.bool (decide (a>=b)))
 | _=>none
def xbl:List Bool->List AV->List AV->Option Bool
 | [],[],[]=>some true
 | true::ks,.int k a::xs,.int k' b::ys=>if k=k' then (xbl ks xs ys).map ((a == b) && ·) else none
 | false::ks,.bool a::xs,.bool b::ys=>(xbl ks xs ys).map ((a == b) && ·)
 | _,_,_=>none
def eqA (T:Option Ty) (x y:AV):Option Bool:=match x,y with
 | .bool a,.bool b=>(match T with
   | some { kind:=.bool,.. }=>some (a == b)
   | _=>none)
 | .agg xs,.agg ys=>(match T with
   | some { eqOk:=some ks,.. }=>xbl ks xs ys
   | _=>none)
 | x, y=>(match T,x,y with
   | some { kind:=.ptr _,.. },.nilp,.nilp=>some true
   | some { kind:=.ptr _,.. },.nilp,.ptr _ _ _ _=>some false
   | some { kind:=.ptr _,.. },.nilp,.eptr _ _=>some false
   | some { kind:=.ptr _,.. },.ptr _ _ _ _,.nilp=>some false
   | some { kind:=.ptr _,.. },.eptr _ _,.nilp=>some false
   | some { kind:=.slice _,.. },.nils,.nils=>some true
   | some { kind:=.slice _,.. },.nils,.ro _ _ _ _=>some false
   | some { kind:=.slice _,.. },.nils,.sl _ _ _ _ _=>some false
   | some { kind:=.slice _,.. },.ro _ _ _ _,.nils=>some false
   | some { kind:=.slice _,.. },.sl _ _ _ _ _,.nils=>some false
   | some { kind:=.iface,.. },.nili,.ifc _ _=>some false
   | some { kind:=.iface,.. },.ifc _ _,.nili=>some false
   | _,_,_=>none)
def eqK (T:Option Ty) (x y:AV):Option Bool:=match x,y with
 | .int k a,.int k' b=>(match T with
   | some { kind:=.int _,.. }=>if k=k' then some (a == b) else none
   | _=>none)
 | .bool a,.bool b=>(match T with
   | some { kind:=.bool,.. }=>some (a == b)
   | _=>none)
 | .agg xs,.agg ys=>(match T with
   | some { kind:=.struct _,eqOk:=some ks,.. }=>xbl ks xs ys
   | _=>none)
 | _,_=>none
def xgv (T:Option Ty) (k:AV):List (AV×AV)->Nat->Option (Option (Nat×AV))
 | [],_=>some none
 | p :: r,i=>match eqK T k p.1 with
   | some true=>some (some (i,p.2))
   | some false=>xgv T k r (i+1)
   | none=>none
def xvj (P:Program) (t:TypeId):Option AV:=match P.info? t with
 | some i=>(match i.zero with
   | some (.agg _)=>none
   | some v=>some (xkq v)
   | none=>none)
 | none=>none
def xma (T:Option Ty) (op:BinOp) (x y:AV):Option AV:=match op,x,y with
 | .shl,.int k a,.int _ b=>if b<0 then none else some (.int k (k.wrap (a*2 ^ (min b.toNat k.bits))))
 | .shr,.int k a,.int _ b=>if b<0 then none else some (.int k (a.fdiv (2 ^ (min b.toNat k.bits))))
 | op,.int k a,.int k' b=>if k=k' then xvc op k a b else none
 | .eql,x,y=>(eqA T x y).map .bool
 | .neq,x,y=>(eqA T x y).map fun r=>.bool !r
 | _,_,_=>none
def unA (op:UnOp) (x:AV):Option AV:=match op,x with
 | .neg,.int k n=>some (.int k (k.wrap (0 - n)))
 | .not,.bool b=>some (.bool !b)
 | _,_=>none
def xBh (v:AV) (most:Nat):Option Nat:=match v with
 | .int _ n=>if 0<=n/\n<=(most:Int) then some n.toNat else none
 | _=>none
def evO (ev:Operand->AV) (x:Option Operand) (dflt:Nat) (most:Nat):Option Nat:=match x with
 | none=>some dflt
 | some x=>xBh (ev x) most
def xf1 (size:Nat) (ev:Operand->AV) (x:AV) (lo hi mx:Option Operand):Option AV:=match x with
 | .nils=>do
   let _ <- evO ev mx 0 0
   let _ <- evO ev hi 0 0
   let _ <- evO ev lo 0 0
   if mx.isSome && hi.isNone then none else some .nils
 | .ro kd c0 s es=>do
   if mx.isSome && hi.isNone then none else
   let m <- evO ev mx es.length es.length
   let h <- evO ev hi es.length m
   let l <- evO ev lo 0 h
   if s=size then some (.ro kd (if mx.isSome then decide (m=h) else c0 && decide (h=es.length)) s ((es.drop l).take (h - l))) else none
 | .sl i s a n cap=>do
   if mx.isSome && hi.isNone then none else
   let m <- evO ev mx n n
   let h <- evO ev hi n m
   let l <- evO ev lo 0 h
   if s=size then some (.sl i s (a+l) (h - l) (if mx.isSome then some (m - l) else cap.map (· - l))) else none
 | _=>none
def xIa:AV->Option Nat
 | .nils=>some 0
 | .ro _ _ _ es=>some es.length
 | .sl _ _ _ n _=>some n
 | _=>none
def xhm (f:Int->Int->Int) (k:IntKind):List AV->Int->Option AV
 | [],a=>some (.int k a)
 | .int k' b::r,a=>if k=k' then xhm f k r (f a b) else none
 | _,_=>none
def xfq (places:Nat->Option (Nat×Nat)) (cells:List AV):List (Nat×AV)->Option (List AV)
 | []=>some cells
 | (_,.any)::_=>none
 | (i, v)::rest=>match places i with
   | none=>none
   | some (off,size)=>if v.cells.length=size/\off+size<=cells.length
     then xfq places (cells.take off++v.cells++cells.drop (off+size)) rest else none
def xes (s:Nat):Nat->List AV->List (List AV)
 | 0,_=>[]
 | n+1,cs=>cs.take s::xes s n (cs.drop s)
def xaw (C:Cfg) (ev:Operand->AV) (b:Builtin) (args:List Operand) (ts:List TypeId):Option MA:=match b,args,ts with
 | .len,[x],[t]=>(match C.ty t with
   | some { kind:=.slice _,.. }=>(xIa (ev x)).map fun (n:Nat)=>MA.pure (i64 (n:Int))
   | some { kind:=.map _ _,.. }=>(match ev x with
     | .nilm=>some (.pure (i64 0))
     | .mp i=>some (.mlen i)
     | _=>none)
   | some { kind:=.array n _ _,.. }=>some (.pure (i64 n))
   | _=>none)
 | .min,x::r,_=>(match ev x with
   | .int k a=>(xhm (fun a b=>if b<a then b else a) k (r.map ev) a).map .pure
   | _=>none)
 | .max,x::r,_=>(match ev x with
   | .int k a=>(xhm (fun a b=>if b > a then b else a) k (r.map ev) a).map .pure
   | _=>none)
 | .append,[a,x],[t,u]=>(match C.ty t,C.ty u with
   | some { kind:=.slice e,.. },some { kind:=.slice _,.. }=>(match C.ty e with
     | some { size:=s,bytes:=by_,zero:=some z,.. }=>if z.length=s then some (.append (ev a) (ev x) s by_) else none
     | _=>none)
   | _,_=>none)
 | .copy,[d,x],[t,u]=>(match C.ty t,C.ty u with
   | some { kind:=.slice e,.. },some { kind:=.slice _,.. }=>(match C.ty e with
     | some te=>some (.copy (ev d) (ev x) te.size)
     | none=>none)
   | _,_=>none)
 | .delete,[m,k],t::_=>(match C.ty t,ev m with
   | some { kind:=.map kt _,.. },.mp i=>some (.mdel i (C.ty kt) (ev k))
   | _,_=>none)
 | _,_,_=>none
def xq3 (T:Option Ty) (x yv:AV) (y:Operand):Bool:=match T,x,yv,y with
 | some { kind:=.iface,.. },.nili,.nili,.const .nilIface=>true
 | _,_,_,_=>false
theorem xw5 {T:Option Ty} {x yv:AV} {y:Operand} (h:xq3 T x yv y=true):∃ Y,T=some Y/\Y.kind=.iface/\x=.nili/\yv=.nili/\y=.const .nilIface:=by
 unfold xq3 at h;split at h
 ·exact ⟨_,rfl,rfl,rfl,rfl,rfl⟩
 ·cases h
theorem xKo {T:Option Ty} {op:BinOp} {x yv:AV} {y:Operand} (h:xq3 T x yv y=true):xma T op x yv=none:=by
 obtain ⟨Y,rfl,hk,rfl,rfl,rfl⟩:=xw5 h;cases Y;simp only at hk;subst hk;cases op <;> rfl
def xMv (P:Program) (t:TypeId) (x:Operand):=match x with
 | .const (.string s)=>(match P.underlying t with
   | some .string=>some s
   | _=>none)
 | _=>none
def xi2 (C:Cfg) (ev:Operand->AV) (o:Oper):Option MA:=match o.op with
 | .move x=>some (.pure (ev x))
 | .assign x=>some (.pure (ev x))
 | .pick c a b=>(match ev c with
   | .bool t=>some (.pure (if t then ev a else ev b))
   | _=>none)
 | .alloc t=>(match C.ty t with
   | some { zero:=some z,.. }=>some (.newp z.length z)
   | _=>none)
 | .box _ x=>(match ev x with
   | .any=>none
   | v=>some (.newp v.cells.length v.cells))
 | .build t parts=>(match C.ty t with
   | some { kind:=.struct fs,zero:=some z,.. }=>
     ((xfq (fun i=>(fs[i]?).map fun f=>(f.1,f.2.1)) z (parts.toList.map fun p=>(p.1,ev p.2))).map fun cs=>.pure (.agg cs))
   | some { kind:=.array _ es _,zero:=some z,.. }=>
     ((xfq (fun i=>some (i*es,es)) z (parts.toList.map fun p=>(p.1,ev p.2))).map fun cs=>.pure (.agg cs))
   | _=>none)
 | .buildSlice t len parts=>(match C.ty t with
   | some { kind:=.slice e,.. }=>(match C.ty e with
     | some { size:=s,zero:=some z,.. }=>if len*s<=2 ^ 20/\z.length=s then
         (if len=0 then (xfq (fun i=>some (i*s,s)) (List.replicate len z).flatten (parts.toList.map fun p=>(p.1,ev p.2))).map fun _=>.newe s
         else (xfq (fun i=>some (i*s,s)) (List.replicate len z).flatten (parts.toList.map fun p=>(p.1,ev p.2))).map fun cs=>.news s (xes s len cs) len len)
       else none
     | _=>none)
   | _=>none)
 | .load t a=>(match C.ty t with
   | some ty=>(match ev a with
     | .ptr i s k j=>some (.load i s k j ty.agg ty.size)
     | .eptr _ cs=>if ty.agg then (if ty.size<=cs.length then some (.pure (.agg (cs.take ty.size))) else none) else (cs.head?).map .pure
     | _=>none)
   | none=>none)
 | .store t a x=>(match C.ty t with
   | some ty=>(match ev a,ev x with
     | .ptr _ _ _ _,.any=>none
     | .ptr i s k j,v=>if v.cells.length=ty.size then some (.store i s k j v.cells) else none
     | _,_=>none)
   | none=>none)
 | .nilCheck x=>(match ev x with
   | .ptr i s k j=>some (.pure (.ptr i s k j))
   | .eptr kd cs=>some (.pure (.eptr kd cs))
   | .fn (.func f) a c=>some (.pure (.fn (.func f) a c))
   | _=>none)
 | .binOp op t x y _=>if xq3 (C.ty t) (ev x) (ev y) y then (match op with
   | .eql=>some (.pure (.bool true))
   | .neq=>some (.pure (.bool false))
   | _=>none) else (xma (C.ty t) op (ev x) (ev y)).map .pure
 | .unOp op _ x=>(unA op (ev x)).map .pure
 | .convert s d x=>(match C.ty s,C.ty d,ev x with
   | some { kind:=.int _,.. },some { kind:=.int k,.. },.int _ n=>some (.pure (.int k (k.wrap n)))
   | _,_,_=>none)
 | .makeInterface t x=>(match C.ty t with
   | some { kind:=.iface,.. }=>none
   | some _=>some (.pure (.ifc t (ev x)))
   | none=>none)
 | .makeFunc f a c=>some (.pure (.fn f (a.toList.map ev) (c.toList.map ev)))
 | .makeSlice t l c=>(match C.ty t,ev l,ev c with
   | some { kind:=.slice e,.. },.int .i64 n,.int .i64 m=>(match C.ty e with
     | some { size:=s,bytes:=by_,zero:=some z,.. }=>
       if 0<=n/\n<=m/\m<=2 ^ 40/\by_*m<=2 ^ 46/\z.length=s/\0<s then some (.news s (List.replicate m.toNat z) n.toNat m.toNat) else none
     | _=>none)
   | _,_,_=>none)
 | .slice t x lo hi mx=>(match C.ty t with
   | some { kind:=.slice e,.. }=>(match C.ty e with
     | some te=>(xf1 te.size ev (ev x) lo hi mx).map .pure
     | none=>none)
   | some { kind:=.array m es _,.. }=>(match lo,hi,mx,ev x with
     | none,none,none,.eptr kd cs=>if 0<m/\m*es<=cs.length then some (.pure (.ro kd true es (xes es m cs))) else none
     | _,_,_,_=>none)
   | _=>none)
 | .fieldAddr t x f=>(match C.ty t with
   | some { kind:=.struct fs,.. }=>(match fs[f]? with
     | some (off,sz,_)=>if sz=0 then none else (match ev x with
       | .ptr i s k j=>some (.pure (.ptr i s k (j+off)))
       | .eptr kd cs=>some (.pure (.eptr kd (cs.drop off)))
       | _=>none)
     | none=>none)
   | _=>none)
 | .field t x f=>(match C.ty t,ev x with
   | some { kind:=.struct fs,.. },.agg cs=>(match fs[f]? with
     | some (off,sz,true)=>if off+sz<=cs.length then some (.pure (.agg ((cs.drop off).take sz))) else none
     | some (off,_,false)=>(cs[off]?).map .pure
     | none=>none)
   | _,_=>none)
 | .indexAddr t x ix=>(match C.ty t,ev ix with
   | some { kind:=.slice e,.. },.int _ n=>(match C.ty e,ev x with
     | some te,.ro kd _ s es=>if 0<=n/\s=te.size then (match es[n.toNat]? with
         | some cs=>some (.pure (.eptr kd cs))
         | none=>none) else none
     | some te,.sl i s lo m _=>if 0<=n/\n<(m:Int)/\s=te.size then some (.pure (.ptr i s (lo+n.toNat) 0)) else none
     | _,_=>none)
   | some { kind:=.array m es _,.. },.int _ n=>if 0<=n/\n<(m:Int) then (match ev x with
     | .ptr i s k j=>some (.pure (.ptr i s k (j+n.toNat*es)))
     | .eptr kd cs=>some (.pure (.eptr kd (cs.drop (n.toNat*es))))
     | _=>none) else none
   | _,_=>none)
 | .index t x ix=>(match xMv C.P t x with
  | some s=>(match ev ix with
   | .int _ n=>if 0<=n then (s[n.toNat]?).map fun b=>.pure (.int .u8 (b.toNat:Nat)) else none
   | _=>none)
  | none => (match C.ty t,ev x,ev ix with
   | some { kind:=.array m es ea,.. },.agg cs,.int _ n=>if 0<=n/\n<(m:Int) then
       (if ea then (if n.toNat*es+es<=cs.length then some (.pure (.agg ((cs.drop (n.toNat*es)).take es))) else none) else (cs[n.toNat*es]?).map .pure)
     else none
   | _,_,_=>none))
 | .extract x i=>(match ev x with
   | .tup vs=>(vs[i]?).map .pure
   | _=>none)
 | .typeAssert x _ t ok=>(match C.ty t,ev x with
   | some { kind:=.iface,.. },_=>none
   | some _,.ifc t' v=>if t'=t then some (.pure (if ok then .tup [v,.bool true] else v)) else none
   | _,_=>none)
 | .call c => (match c.callee with
   | .builtin b=>xaw C ev b c.args.toList c.argTypes.toList
   | .value f=>(match ev f with
     | .fn (.func g) a cp=>some (.call g (a++c.args.toList.map ev++cp))
     | .yl=>some (.yld (c.args.toList.map ev))
     | _=>none)
   | .invoke recv name=>(match ev recv with
     | .ifc t v=>(match xz3 C.P t name with
       | some (g,none)=>some (.call g (v::c.args.toList.map ev))
       | some (g,some e)=>(match C.ty e,v with
         | some ty,.ptr i s k j=>some (.callp g i s k j ty.agg ty.size (c.args.toList.map ev))
         | _,_=>none)
       | none=>none)
     | _=>none))
 | .panic x=>(match ev x with
   | .ifc t (.agg [])=>some (.pan t)
   | _=>none)
 | .makeMap t r=>(match C.ty t with
   | some { kind:=.map _ _,.. }=>(match r with
     | none=>some .newm
     | some x=>(match ev x with
       | .int _ _=>some .newm
       | _=>none))
   | _=>none)
 | .lookup t x ix ok=>(match C.ty t,ev x with
   | some { kind:=.map kt e,.. },.mp i=>(xvj C.P e).map fun z=>.mget i (C.ty kt) (ev ix) z ok
   | _,_=>none)
 | .mapUpdate t m k v=>(match C.ty t,ev m with
   | some { kind:=.map kt _,.. },.mp i=>some (.mset i (C.ty kt) (ev k) (ev v))
   | _,_=>none)
 | .insert t m k v=>(match C.ty t,ev m with
   | some { kind:=.map kt _,.. },.mp i=>some (.mset i (C.ty kt) (ev k) (ev v))
   | _,_=>none)
 | _=>none
abbrev Hd (S:Type):=List AV->xap->S->Option (AV×xap×S)
abbrev xb6:=(S:Type)->Option (Hd S)->FuncId->List AV->xap->S->Option (AV×xap×S)
def xgs (look:Nat->Option Blk) (sz:Nat):AV->Option (List (List AV)×Bool)
 | .nils=>some ([],true)
 | .ro kd _ s es=>if s=sz then some (es,!(decide (kd=.n))) else none
 | .sl i s lo n _=>match look i with
   | some (.row s' es flat)=>if s'=s/\s=sz/\lo+n<=es.length then some ((es.drop lo).take n,flat) else none
   | _=>none
 | _=>none
def xAx:AV->Bool
 | .int _ _=>true
 | .bool _=>true
 | .nilp=>true
 | .nils=>true
 | .nilf=>true
 | .nili=>true
 | .nilm=>true
 | .ro .g _ _ _=>true
 | .eptr .g _=>true
 | _=>false
def xfa:List AV->Bool
 | []=>true
 | c::cs=>xAx c && xfa cs
def xsp:List (List AV)->Bool
 | []=>true
 | e::es=>xfa e && xsp es
def okV:AV->Bool
 | .any=>false
 | .und=>false
 | .agg _=>false
 | .tup _=>false
 | .pan _=>false
 | _=>true
def okL:List AV->Bool
 | []=>true
 | c::cs=>okV c && okL cs
def okE:List (List AV)->Bool
 | []=>true
 | e::es=>okL e && okE es
def xse (s:Nat):List (List AV)->Bool
 | []=>true
 | e::es=>decide (e.length=s) && xse s es
structure Res (S:Type) where
 v : AV
 ups:List (Nat×Option Blk)
 news:xap
 s : S
def xen (look:Nat->Option Blk) (flags:List Bool) (args:List AV):List Nat×List AV×xap:=
 let ms:=xfo look wide ((args.zip (flags++List.replicate args.length false)).flatMap fun p=>if p.2 then ids xak p.1 else []) []
 let look':Nat->Option Blk:=fun i=>if ms.contains i then none else look i
 (ms,(args.zip (flags++List.replicate args.length false)).map (fun p=>if p.2 then mv true true (pos ms) xak p.1 else fz look' xak p.1),
  ms.map fun i=>(look i).map (mvB true true (pos ms)))
def back (ms:List Nat) (at_:Nat) (i:Nat):Option Nat:=match ms[i]? with
 | some m=>some m
 | none=>if ms.length<=i then some (at_+(i - ms.length)) else none
def xba (ms:List Nat) (at_:Nat) (nh:xap):List (Nat×Option Blk)×xap:=
 ((ms.zip (List.range ms.length)).map fun p=>(p.1,(xag nh p.2).map (mvB true true (back ms at_))),
   (nh.drop ms.length).map fun b=>b.map (mvB true true (back ms at_)))
def strike (v:AV):AV:=mv false true some xak v
def xed (h:xap):xap:=h.map fun b=>b.map (mvB false true some)
def xpi (flags:List Bool) (args:List AV):Bool:=decide (args.length<=flags.length) && flags.all id
def xg4 (C:Cfg) (call:xb6) {S:Type} (H:Option (Hd S)) (at_:Nat) (look:Nat->Option Blk) (s:S) (f:FuncId) (args:List AV):Option (Res S):=
 match C.ext f with
 | some E=>(E (args.map (fz look xak))).map fun v=>⟨mv true true (back [] at_) xak (strike v),[],[],s⟩
 | none => match C.wr f with
   | []=>match call Unit none f (args.map (fz look xak)) [] () with
     | some (v,nh,_)=>some ⟨mv true true (back [] at_) xak (strike v),[],(xba [] at_ (xed nh)).2,s⟩
     | none=>none
   | flags => match xen look flags args with
     | (ms, cargs,ch)=>match call S H f cargs ch s with
       | some (v,nh,s')=>(match xpi flags args with
         | true=>some ⟨mv true true (back ms at_) xak v,(xba ms at_ nh).1,(xba ms at_ nh).2,s'⟩
         | false=>some ⟨mv true true (back ms at_) xak (strike v),(xba ms at_ (xed nh)).1,(xba ms at_ (xed nh)).2,s'⟩)
       | none=>none
def xpt (look:Nat->Option Blk) (i sz k j:Nat) (agg:Bool) (n:Nat):Option AV:=match look i with
 | some (.row s' es _)=>if s'=sz then (match es[k]? with
     | some cs=>if agg then (if j+n<=cs.length then some (.agg ((cs.drop j).take n)) else none) else cs[j]?
     | none=>none) else none
 | _=>none
def act (C : Cfg) (call:xb6) {S:Type} (H:Option (Hd S)) (at_:Nat) (look:Nat->Option Blk) (s:S):MA->Option (Res S)
 | .pure v=>some ⟨v,[],[],s⟩
 | .pan t=>some ⟨.pan t,[],[],s⟩
 | .newp sz e=>if okL e then some ⟨.ptr at_ sz 0 0,[],[some (.row sz [e] (xfa e))],s⟩ else none
 | .news sz es n cap=>if okE es && xse sz es then some ⟨.sl at_ sz 0 n (some cap),[],[some (.row sz es (xsp es))],s⟩ else none
 | .newe sz=>some ⟨.ro .g true sz [],[],[],s⟩
 | .load i sz k j agg n=>match look i with
   | some (.row s' es _)=>if s'=sz then (match es[k]? with
       | some cs=>if agg then (if j+n<=cs.length then some ⟨.agg ((cs.drop j).take n),[],[],s⟩ else none)
         else (match cs[j]? with
          | some v=>some ⟨v,[],[],s⟩
          | none=>none)
       | none=>none) else none
   | _=>none
 | .store i sz k j vs=>match look i with
   | some (.row s' es flat)=>if s'=sz then (match es[k]? with
       | some cs=>if j+vs.length<=cs.length/\okL vs=true then some ⟨.und,[(i,some (.row sz (es.set k (cs.take j++vs++cs.drop (j+vs.length))) (flat && xfa vs)))],[],s⟩ else none
       | none=>none) else none
   | _=>none
 | .append a x sz by_=>match xgs look sz x with
   | none=>none
   | some (xs, fx)=>match a with
     | .nils=>if xs.isEmpty then some ⟨.nils,[],[],s⟩ else
         if xs.length<=2 ^ 62/\xs.length*by_<=2 ^ 47/\0<sz then some ⟨.sl at_ sz 0 xs.length none,[],[some (.row sz xs fx)],s⟩ else none
     | .ro kd c0 sr es=>if xs.isEmpty then some ⟨.ro kd c0 sr es,[],[],s⟩ else
         if c0 && decide (sr=sz/\es.length+xs.length<=2 ^ 62/\(es.length+xs.length)*by_<=2 ^ 47/\0<sz) then some ⟨.sl at_ sz 0 (es.length+xs.length) none,[],[some (.row sz (es++xs) (fx && !(decide (kd=.n))))],s⟩ else none
     | .sl i s' lo n cap=>if xs.isEmpty then some ⟨.sl i s' lo n cap,[],[],s⟩ else
         (match look i with
         | some (.row s'' es flat)=>if s'=sz/\s''=sz/\lo=0/\n<=es.length/\n+xs.length<=2 ^ 62/\(n+xs.length)*by_<=2 ^ 47/\0<sz then
             some ⟨.sl at_ sz 0 (n+xs.length) none,[(i,none)],[some (.row sz (es.take n++xs) (flat && fx))],s⟩ else none
         | _=>none)
     | _=>none
 | .copy d x ss=>match xgs look ss x with
   | none=>none
   | some (xs,fx)=>match d with
     | .nils=>some ⟨i64 0,[],[],s⟩
     | .sl i sz lo n _=>(match look i with
       | some (.row s' es flat)=>if s'=sz/\sz=ss/\lo+n<=es.length then
           some ⟨i64 (min xs.length n:Nat),[(i,some (.row sz (es.take lo++xs.take (min xs.length n)++es.drop (lo+min xs.length n)) (flat && fx)))],[],s⟩ else none
       | _=>none)
     | _=>none
 | .call f args=>xg4 C call H at_ look s f args
 | .callp f i sz k j agg n args=>match xpt look i sz k j agg n with
   | some v=>xg4 C call H at_ look s f (v::args)
   | none=>none
 | .yld args=>match H with
   | none=>none
   | some H=>match xen look (args.map fun _=>true) args with
     | (ms,cargs,ch)=>match H cargs ch s with
       | some (.bool b,nh,s')=>some ⟨.bool b,(xba ms at_ (nh.take ms.length)).1,[],s'⟩
       | _=>none
 | .newm=>some ⟨.mp at_,[],[some (.map [])],s⟩
 | .mlen i=>match look i with
   | some (.map kvs)=>some ⟨i64 (kvs.length:Nat),[],[],s⟩
   | _=>none
 | .mget i T k z ok=>match look i with
   | some (.map kvs)=>(match eqK T k k,xgv T k kvs 0 with
     | some true,some (some p)=>some ⟨if ok then .tup [p.2,.bool true] else p.2,[],[],s⟩
     | some true,some none=>some ⟨if ok then .tup [z,.bool false] else z,[],[],s⟩
     | _,_=>none)
   | _=>none
 | .mset i T k v=>match look i with
   | some (.map kvs)=>(match eqK T k k,xgv T k kvs 0 with
     | some true,some (some p)=>some ⟨.und,[(i,some (.map (kvs.set p.1 (k,v))))],[],s⟩
     | some true,some none=>some ⟨.und,[(i,some (.map (kvs++[(k,v)])))],[],s⟩
     | _,_=>none)
   | _=>none
 | .mdel i T k=>match look i with
   | some (.map kvs)=>(match eqK T k k,xgv T k kvs 0 with
     | some true,some (some p)=>some ⟨.tup [],[(i,some (.map (kvs.eraseIdx p.1)))],[],s⟩
     | some true,some none=>some ⟨.tup [],[(i,some (.map kvs))],[],s⟩
     | _,_=>none)
   | _=>none
def put (dst:Option Tmp) (v:AV) (ts:List AV):List AV:=match dst with
 | none=>ts
 | some d=>ts.set d v
def xhu (ops:Array Oper) (ts:List AV) (o:Oper):Option Bool:=match o.guard with
 | none=>some true
 | some (j,want)=>match ((ops[j]?).bind (·.dst)).bind (ts[·]?) with
   | some (.bool b)=>some (b == want)
   | some .und=>some false
   | _=>none
def ev (ts:List AV):Operand->AV
 | .tmp t=>(ts[t]?).getD .und
 | .const v=>xJg v
 | .global _=>.any
 | .func f=>.fn (.func f) [] []
inductive Ex where
 | normal
 | exit (id:Nat)
 | ret
 /-- a panic with an empty struct of this type -/
 | pan (t:TypeId)
def xds:AV->Option TypeId
 | .pan t=>some t
 | _=>none
def exV (v:AV):Ex:=match xds v with
 | some t=>.pan t
 | none=>.normal
def exA (ma:MA) (v:AV):Ex:=match ma with
 | .call _ _=>exV v
 | .callp _ _ _ _ _ _ _ _=>exV v
 | .pan _=>exV v
 | _=>.normal
def vA (ma:MA) (v:AV):AV:=match exA ma v with
 | .normal=>v
 | _=>.any
def xzd (C:Cfg) (call:xb6) {S:Type} (H:Option (Hd S)) (ops:Array Oper) (o:Oper) (σ:St) (s:S):Option (Ex×St×S):=
 match xhu ops σ.tmps o with
 | none=>none
 | some false=>some (.normal,{ σ with tmps:=put o.dst .und σ.tmps },s)
 | some true=>match xi2 C (ev σ.tmps) o with
   | none=>none
   | some ma=>match act C call H σ.h.length (xag σ.h) s ma with
     | none=>none
     | some r=>some (exA ma r.v,{ tmps:=put o.dst (vA ma r.v) σ.tmps,h:=xdn (xcn σ.h r.ups) σ.h.length r.news },r.s)
def fzM (σ:St) (t:Nat):List Nat:=xfo (xag σ.h) wide (ids xak ((σ.tmps[t]?).getD .und)) []
def fzT (σ:St) (t:Nat):St:=
 { tmps:=σ.tmps.set t (fzk (fun i=>if (fzM σ t).contains i then xag σ.h i else none) xak ((σ.tmps[t]?).getD .und)),h:=xcn σ.h ((fzM σ t).map fun i=>(i,none)) }
def xjq (σ:St) (es:List (List AV)):List Nat:=xfo (xag σ.h) wide (es.flatMap fun e=>e.flatMap (ids xak)) []
def xmq (σ:St) (es:List (List AV)):List (List AV):=es.map fun e=>e.map (fzk (fun i=>if (xjq σ es).contains i then xag σ.h i else none) xak)
def fzI (σ:St) (t:Nat):St:=match (σ.tmps[t]?).getD .und with
 | .sl i _ _ _ _=>(match xag σ.h i with
   | some (.row s es false)=>if (xjq σ es).contains i then σ else { σ with h:=xcn (xb7 σ.h i (some (.row s (xmq σ es) false))) ((xjq σ es).map fun i=>(i,none)) }
   | _=>σ)
 | _=>σ
def xng:Nat:=1000000
def xWo (σ:St) (u v:Nat):Bool:=match (σ.tmps[u]?).getD .und,(σ.tmps[v]?).getD .und with
 | .int _ a,.int _ b=>decide (a=b)
 | _,_=>true
def fzC (σ:St) (c:Nat):St:=if xWo σ (c / 1000 % 1000) (c / 1000000) then σ else fzT σ (c % 1000)
def fzL:List Nat->St->St
 | [],σ=>σ
 | t::r,σ=>fzL r (if t<xng then fzT σ t else if t<2*xng then fzI σ (t - xng) else fzC σ (t - 2*xng))
def xnq (C:Cfg) (call:xb6) {S:Type} (H:Option (Hd S)) (ops:Array Oper):List Oper->St->S->Option (Ex×St×S)
 | [],σ,s=>some (.normal,σ,s)
 | o :: r,σ,s=>match xzd C call H ops o (fzL (C.fzo o) σ) s with
   | some (.normal,σ',s')=>xnq C call H ops r σ' s'
   | x=>x
structure Touch where
 cls:Nat
 is:List Nat
def sid:AV->List Nat
 | .sl i _ _ _ _=>[i]
 | _=>[]
def xbp (C:Cfg):MA->Touch
 | .pure _=>⟨0,[]⟩
 | .newp _ _=>⟨0,[]⟩
 | .news _ _ _ _=>⟨0,[]⟩
 | .newe _=>⟨0,[]⟩
 | .load i _ _ _ _ _=>⟨1,[i]⟩
 | .store i _ _ _ _=>⟨2,[i]⟩
 | .append a x _ _=>⟨2,sid a++sid x⟩
 | .copy a x _=>⟨2,sid a++sid x⟩
 | .newm=>⟨0,[]⟩
 | .mlen i=>⟨1,[i]⟩
 | .mget i _ _ _ _=>⟨1,[i]⟩
 | .mset i _ _ _=>⟨2,[i]⟩
 | .mdel i _ _=>⟨2,[i]⟩
 | .call f _=>match C.ext f,C.wr f with
   | none,_::_=>⟨4,[]⟩
   | _,_=>⟨3,[]⟩
 | .callp f _ _ _ _ _ _ _=>match C.ext f,C.wr f with
   | none,_::_=>⟨4,[]⟩
   | _,_=>⟨3,[]⟩
 | _=>⟨4,[]⟩
def xj5 (a b:Touch):Bool:=
 match a.cls,b.cls with
 | 0,_=>false
 | _,0=>false
 | 1,1=>false
 | 1,3=>false
 | 3,1=>false
 | 3,3=>false
 | 4,_=>true
 | _,4=>true
 | 3,_=>true
 | _,3=>true
 | _,_=>a.is.any (b.is.contains ·)
structure Done where
 /-- the operation, its xbp, the first of its new blocks, how many -/
 i : Nat
 t : Touch
 a : Nat
 n : Nat
def xfl (m:Nat) (done:List Done) (dep:Nat) (id:Nat):Bool:=
 decide (id<m) || done.any fun d=>dep.testBit d.i && decide (d.a<=id/\id<d.a+d.n)
def xrz (C : Cfg) (call:xb6) {S:Type} (H:Option (Hd S)) (ops:Array Oper) (deps:Array Nat) (m:Nat) :
    List (Oper×Nat)->List Done->St->S->Option (Ex×St×S)
 | [],_,σ,s=>some (.normal,σ,s)
 | (o, i) :: r,done,σ,s=>match xhu ops σ.tmps o with
   | none=>none
   | some false=>xrz C call H ops deps m r done { σ with tmps:=put o.dst .und σ.tmps } s
   | some true=>match xi2 C (ev σ.tmps) o with
     | none=>none
     | some ma=>
       let t:=xbp C ma
       let dep:=deps.getD i 0
       if done.any (fun d=>!(dep.testBit d.i) && xj5 d.t t) then none else
       match act C call H σ.h.length (fun id=>if xfl m done dep id && (decide (t.cls=3\/t.cls=4) || t.is.contains id) then xag σ.h id else none) s ma with
       | none=>none
       | some res=>match exA ma res.v with
         | .normal=>xrz C call H ops deps m r (⟨i,t,σ.h.length,res.news.length⟩::done)
           { tmps:=put o.dst res.v σ.tmps,h:=xdn (xcn σ.h res.ups) σ.h.length res.news } res.s
         | e=>if (r.all fun p=>(deps.getD p.2 0).testBit i) && ((done.all fun d=>decide (d.t.cls≠2/\d.t.cls≠4)) && decide (t.cls=3)) then some (e,{ tmps:=put o.dst res.v σ.tmps,h:=xdn (xcn σ.h res.ups) σ.h.length res.news },res.s) else none
def xqu (ops:List Oper) (ts:List AV):List AV:=ops.foldl (fun ts o=>put o.dst .any ts) ts
def xwi (C:Cfg) (call:xb6) {S:Type} (H:Option (Hd S)) (ops:Array Oper) (σ:St) (s:S):Option (Ex×St×S):=
 match xrz C call H ops (Region.before ops) σ.h.length (ops.toList.zip (List.range ops.size)) [] σ s with
 | some (.normal,σ',s')=>some (.normal,σ',s')
 | some (e,σ',s')=>some (e,{ tmps:=xqu ops.toList σ.tmps,h:=σ.h++List.replicate (σ'.h.length - σ.h.length) none },s')
 | none=>none
def xbn:Code->Nat
 | .region i _ _=>i
 | .seq a b=>match a with
   | .skip=>xbn b
   | .label _=>xbn b
   | _=>xbn a
 | .cond _ a _=>xbn a
 | .block _ b=>xbn b
 | .loop b=>xbn b
 | .scope b=>xbn b
 | .rangeFunc _ _ _ b=>xbn b
 | _=>0
def xm3 {S:Type} (nrm:St->St) (body:St->S->Option (Ex×St×S)):Nat->St->S->Option (Ex×St×S)
 | 0,_,_=>none
 | n + 1,σ,s=>match body (nrm σ) s with
   | some (.normal,σ',s')=>xm3 nrm body n σ' s'
   | r=>r
def xfc (ps:List Tmp) (vs:List AV) (ts:List AV):List AV:=(ps.zip vs).foldl (fun ts p=>ts.set p.1 p.2) ts
def xgh (n at_ i:Nat):Option Nat:=if i<n then some (at_+i) else none
def xkx (C:Cfg) (k:Nat) (f:FuncId) (body:Code):St->St:=match C.ann f (xbn body) with
 | some live=>xig k live
 | none=>id
def xrg (n at_ j:Nat):Option Nat:=if at_<=j/\j<at_+n then some (j - at_) else none
def xnf (at_:Nat) (yh h:xap):xap:=(List.range yh.length).map fun i=>(xag yh i).bind fun _=>(xag h (at_+i)).map (mvB false false (xrg yh.length at_))
def xot {S:Type} (ps:Array Tmp) (gc:St->St) (giv:Bool) (ra rb:Nat->St->S->Option (Ex×St×S)):Hd (St×Option Ex×S):=fun ya yh st=>match st with
 | (_,some _,_)=>none
 | (τ, none,s)=>if ya.length=ps.size then
     (match ra (τ.h.length+yh.length) { tmps:=xfc ps.toList (ya.map (mv false false (xgh yh.length τ.h.length) xak)) τ.tmps,h:=τ.h++yh.map fun b=>b.map (mvB false false (xgh yh.length τ.h.length)) } s with
     | some (.normal,σ1,s1)=>(match rb (τ.h.length+yh.length) σ1 s1 with
       | some (.pan _,_,_)=>none
       | some (.normal,σ2,s2)=>(match giv with
         | true=>some (.bool true,xnf τ.h.length yh σ2.h,(gc { tmps:=τ.tmps,h:=xcn σ2.h (((List.range yh.length).map (τ.h.length+·)).map fun i=>(i,none)) },none,s2))
         | false=>some (.bool true,List.replicate yh.length none,(gc { tmps:=τ.tmps,h:=σ2.h },none,s2)))
       | some (e,σ2,s2)=>(match giv with
         | true=>some (.bool false,xnf τ.h.length yh σ2.h,(gc { tmps:=τ.tmps,h:=xcn σ2.h (((List.range yh.length).map (τ.h.length+·)).map fun i=>(i,none)) },some e,s2))
         | false=>some (.bool false,List.replicate yh.length none,(gc { tmps:=τ.tmps,h:=σ2.h },some e,s2)))
       | none=>none)
     | _=>none) else none
def xFi:Nat:=1000000
def gcX (C:Cfg) (k:Nat) (f:FuncId) (body:Code) (e:Ex) (σ:St):St:=match e with
 | .normal=>σ
 | .exit id=>match C.annX f (xbn body) (some id) with
   | some live=>xig k live σ
   | none=>σ
 | .ret=>match C.annX f (xbn body) none with
   | some live=>xig k live σ
   | none=>σ
 | .pan _=>match C.annX f (xbn body) (some xFi) with
   | some live=>xig k live σ
   | none=>σ
def xbs (C:Cfg) (call:xb6) (f:FuncId) (k:Nat) {S:Type} (H:Option (Hd S)):Code->St->S->Option (Ex×St×S)
 | .skip,σ,s=>some (.normal,σ,s)
 | .label _,σ,s=>some (.normal,σ,s)
 | .region _ ops draw,σ,s=>
   if draw then xwi C call H ops σ s else xnq C call H ops ops.toList σ s
 | .seq a b,σ,s=>match xbs C call f k H a σ s with
   | some (.normal,σ',s')=>xbs C call f k H b σ' s'
   | r=>r
 | .cond c a b,σ,s=>match ev σ.tmps c with
   | .bool t=>if t then xbs C call f k H a σ s else xbs C call f k H b σ s
   | _=>none
 | .block id b,σ,s=>match xbs C call f k H b σ s with
   | some (.exit id',σ',s')=>if id'=id then some (.normal,σ',s') else some (.exit id',σ',s')
   | r=>r
 | .loop b,σ,s=>(xm3 (xkx C k f b) (xbs C call f k H b) C.fuel σ s).map fun r=>(r.1,gcX C k f b r.1 r.2.1,r.2.2)
 | .rangeFunc g ps assign body,σ0,s=>
   let gc:St->St:=xkx C k f body
   let σ:=gc σ0
   match ev σ.tmps g with
   | .fn (.func gf) a cp=>
     let ms:=xfo (xag σ.h) wide ((a++cp).flatMap (ids xak)) []
     (match call (St×Option Ex×S) (some (xot ps gc (C.give f (xbn body)) (fun kk=>xbs C call f kk H assign) (fun kk=>xbs C call f kk H body))) gf (a.map (mv true false (pos ms) xak)++[.yl]++cp.map (mv true false (pos ms) xak))
         (ms.map fun i=>(xag σ.h i).map (mvB true false (pos ms))) (gc { tmps:=σ.tmps,h:=xcn σ.h (ms.map fun i=>(i,none)) },none,s) with
     | some (v,_,(τ,pend,s'))=>(match xds v,pend with
       | none,none=>some (.normal,τ,s')
       | none,some (.pan _)=>none
       | none,some e=>some (e,τ,s')
       | some _,_=>none)
     | none=>none)
   | _=>none
 | .scope b,σ,s=>xbs C call f k H b σ s
 | .exit id,σ,s=>some (.exit id,σ,s)
 | .ret,σ,s=>some (.ret,σ,s)
 | _,_,_=>none
def xLz (ops:Array Oper):Option (Oper×Operand):=match ops.back? with
 | some o=>(match o.op,o.guard with
   | .defer c,none=>(match c.callee,c.args.toList with
     | .value x,[]=>some (o,x)
     | _,_=>none)
   | _,_=>none)
 | none=>none
def xoj:Code->Option (Array Oper×Oper×Operand)
 | .region _ ops false=>(xLz ops).map fun p=>(ops,p.1,p.2)
 | _=>none
def xea:Code->Bool
 | .seq a b=>xea a || xea b
 | .cond _ a b=>xea a || xea b
 | .block _ b=>xea b
 | .loop b=>xea b
 | .rangeFunc _ _ _ _=>true
 | .scope b=>xea b
 | _=>false
def xh0:Code->Bool
 | .seq a b=>(xoj a).isSome || (!xea a && xh0 b)
 | _=>false
def xsv (C:Cfg) (call:xb6) (f:FuncId) (k:Nat) {S:Type} (H:Option (Hd S)):Code->St->S->Option ((FuncId×List AV)×Ex×St×S)
 | .seq a b,σ,s=>match xoj a with
   | some (ops,o,x)=>(match xnq C call H ops ops.toList.dropLast σ s with
     | some (.normal,σ1,s1)=>(match ev σ1.tmps x with
       | .fn (.func g) as cs=>(xbs C call f σ1.h.length H b { σ1 with tmps:=put o.dst .und σ1.tmps } s1).map fun r=>((g,as++cs),r)
       | _=>none)
     | _=>none)
   | none=>(match xbs C call f k H a σ s with
     | some (.normal,σ',s')=>xsv C call f k H b σ' s'
     | _=>none)
 | _,_,_=>none
def xlx:List Oper->List AV->Option (List AV)
 | [],ts=>some ts
 | o :: r,ts=>match o.guard,o.op with
   | none,.move x=>xlx r (put o.dst (ev ts x) ts)
   | none,.assign x=>xlx r (put o.dst (ev ts x) ts)
   | _,_=>none
def xpz (o:Oper):Bool:=match o.guard,o.op with
 | none,.call c=>(match c.callee,c.args.toList with
   | .builtin .recover,[]=>true
   | _,_=>false)
 | _,_=>false
def xBg (C:Cfg) (call:xb6) (f:FuncId) (rv:AV) (k:Nat) {S:Type} (H:Option (Hd S)):Code->St->S->Option (Ex×St×S)
 | .seq (.region _ ops false) b,σ,s=>if xea b then none else (match ops.toList with
   | o :: r=>if xpz o then (match xlx r (put o.dst rv σ.tmps) with
     | some ts=>xbs C call f k H b { σ with tmps:=ts } s
     | none=>none) else none
   | []=>none)
 | _,_,_=>none
def xAb (h:xap) (C:Cfg) (v:AV) (t:TypeId):Option AV:=match C.ty t,v with
 | some ty,.ptr i s q j=>(match xag h i with
   | some (.row s' es _)=>if s'=s then (match es[q]? with
       | some cs=>if ty.agg then (if j+ty.size<=cs.length then some (.agg ((cs.drop j).take ty.size)) else none) else cs[j]?
       | none=>none) else none
   | _=>none)
 | _,_=>none
def xhj (C:Cfg) (σ:St):List ResultVar->Option (List AV)
 | []=>some []
 | .tmp t::r=>match xhj C σ r with
   | some vs=>some (((σ.tmps[t]?).getD .und)::vs)
   | none=>none
 | .cell a t::r=>match xAb σ.h C ((σ.tmps[a]?).getD .und) t,xhj C σ r with
   | some v,some vs=>some (v::vs)
   | _,_=>none
def xha:List AV->AV
 | [v]=>v
 | vs=>.tup vs
def xdj (C:Cfg) (f:FuncId) (k:Nat) (fn:Func) (σ:St):Option (AV×xap):=
 match xhj C σ fn.results.toList with
 | none=>none
 | some vs=>if (xds (xha vs)).isSome then none else if C.frz f then (if k=0 then some (fzg (xag σ.h) xak (xha vs),[]) else none) else
   let v:=xha vs
   let R:=xhd k [v] σ.h
   some (mv true true (pos R) xak v,xpb true true R σ.h)
def xsy (C:Cfg) (call:xb6) (rv:AV) {S:Type} (H:Option (Hd S)) (f:FuncId) (args:List AV) (h:xap) (s:S):Option (AV×xap×S):=match C.P.funcs[f]? with
 | none=>none
 | some fn=>match fn.body with
   | none=>none
   | some c=>match xBg C call f rv h.length H c { tmps:=args++List.replicate (fn.ntmps - args.length) .und,h:=h } s with
     | some (.normal,σ,s')=>(xdj C f h.length fn σ).map fun r=>(r.1,r.2,s')
     | some (.ret,σ,s')=>(xdj C f h.length fn σ).map fun r=>(r.1,r.2,s')
     | _=>none
def xo3 (C:Cfg) (call:xb6) (rv:AV) {S:Type} (H:Option (Hd S)) (g:FuncId) (args:List AV) (σ:St) (s:S):Option (St×S):=
 match xen (xag σ.h) (args.map fun _=>true) args with
 | (ms,cargs,ch)=>match xsy C call rv H g cargs ch s with
   | some (_,nh,s')=>some ({ σ with h:=xdn (xcn σ.h (xba ms σ.h.length nh).1) σ.h.length (xba ms σ.h.length nh).2 },s')
   | none=>none
def xbv (C : Cfg):Nat->xb6
 | 0,_,_,_,_,_,_=>none
 | n + 1, _, H, f,args,h,s=>match C.P.funcs[f]? with
   | none=>none
   | some fn => match fn.body with
     | none=>none
     | some c => match xh0 c with
       | true => (match xsv C (xbv C n) f h.length H c { tmps:=args++List.replicate (fn.ntmps - args.length) .und,h:=h } s with
         | some ((g,dargs),e,σ,s')=>(match e with
           | .exit _=>none
           | .pan t=>(match xo3 C (xbv C n) (.ifc t (.agg [])) H g dargs σ s' with
             | some (σ',s'')=>(xdj C f h.length fn σ').map fun r=>(r.1,r.2,s'')
             | none=>none)
           | _ => match xo3 C (xbv C n) .nili H g dargs σ s' with
             | some (σ',s'')=>(xdj C f h.length fn σ').map fun r=>(r.1,r.2,s'')
             | none=>none)
         | none=>none)
       | false=>match xbs C (xbv C n) f h.length H c { tmps:=args++List.replicate (fn.ntmps - args.length) .und,h:=h } s with
         | some (.normal,σ,s')=>(xdj C f h.length fn σ).map fun r=>(r.1,r.2,s')
         | some (.ret,σ,s')=>(xdj C f h.length fn σ).map fun r=>(r.1,r.2,s')
         | some (.pan t,_,s')=>if h.length=0 then some (.pan t,[],s') else none
         | _=>none
structure Names where
 φ : Nat->Option Nat
 y : Option Nat
def Names.none:Names:=⟨fun _=>Option.none,Option.none⟩
def xbq (w:World) (b:Nat):Nat:=match w.heap[b]? with
 | some (.cells cs _ _)=>cs.size
 | _=>0
def xo2 (G J:Nat->Prop):Kd->Nat->Prop
 | .g,b=>G b
 | _,b=>J b\/G b
def xkw (J:Nat->Prop):Kd->Nat->Prop
 | .n=>J
 | _=>fun _=>False
mutual
/-- An abstract value and the machine's. G: blocks that never change; J: blocks that do not change in this call. -/
def Rel (w:World) (G:Nat->Prop):AV->Names->(Nat->Prop)->Value->Prop
 | .any,_,_,_=>True
 | .und,_,_,v=>v=undef
 | .int k n,_,_,v=>v=.int k n
 | .bool b,_,_,v=>v=.bool b
 | .agg cs,ν,J,v=>∃ vs:List Value,v=.agg vs.toArray/\xae w G cs ν J vs
 | .tup cs,ν,J,v=>∃ vs:List Value,v=.tuple vs.toArray/\xae w G cs ν J vs
 | .nilp,_,_,v=>v=.pointer .none
 | .ptr i s k j,ν,_,v=>∃ b,ν.φ i=some b/\v=.pointer (some ⟨b,k*s+j,.none⟩)
 | .eptr kd cs,_,J,v=>∃ b o,v=.pointer (some ⟨b,o,.none⟩)/\xo2 G J kd b/\xcf w G cs Names.none (xkw J kd) b o
 | .nils,_,_,v=>v=.slice .none 0 0
 | .ro kd c0 s es,_,J,v=>(es=[]/\∃ a c,v=.slice (some a) 0 c/\(c0=true->c=0))\/∃ b o cap,v=.slice (some ⟨b,o,.none⟩) es.length cap/\es.length<=cap/\(c0=true->cap=es.length)/\(es≠[]->xo2 G J kd b)/\xc2 w G es Names.none (xkw J kd) b o s
 | .sl i s lo n cap,ν,_,v=>∃ b o c,ν.φ i=some b/\v=.slice (some ⟨b,o,.none⟩) n c/\n<=c/\(0<n\/lo=0->o=lo*s)/\(∀ m,cap=some m->c=m)/\o+c*s<=xbq w b
 | .nilf,_,_,v=>v=.nilFunc
 | .fn f a c,ν,J,v=>∃ as cs:List Value,v=.func f as.toArray cs.toArray/\xae w G a ν J as/\xae w G c ν J cs
 | .yl,ν,_,v=>∃ l,ν.y=some l/\v=.func (.yield l) #[] #[]
 | .nili,_,_,v=>v=.nilIface
 | .ifc t x,ν,J,v=>∃ u,v=.iface t u/\Rel w G x ν J u
 | .nilm,_,_,v=>v=.map .none
 | .mp i,ν,_,v=>∃ b,ν.φ i=some b/\v=.map (some b)
 | .pan _,_,_,v=>v=undef
def xae (w:World) (G:Nat->Prop):List AV->Names->(Nat->Prop)->List Value->Prop
 | [],_,_,vs=>vs=[]
 | c::cs,ν,J,vs=>∃ u us,vs=u::us/\Rel w G c ν J u/\xae w G cs ν J us
def xcf (w:World) (G:Nat->Prop):List AV->Names->(Nat->Prop)->Nat->Nat->Prop
 | [],_,_,_,_=>True
 | c::cs,ν,J,b,o=>(∃ u,w.cell? ⟨b,o,.none⟩=some u/\u.oneCell'=true/\Rel w G c ν J u)/\xcf w G cs ν J b (o+1)
def xc2 (w:World) (G:Nat->Prop):List (List AV)->Names->(Nat->Prop)->Nat->Nat->Nat->Prop
 | [],_,_,_,_,_=>True
 | e::es,ν,J,b,o,s=>e.length=s/\xcf w G e ν J b o/\xc2 w G es ν J b (o+s) s
end
def Names.le (ν ν':Names):Prop:=(∀ i b,ν.φ i=some b->ν'.φ i=some b)/\(∀ l,ν.y=some l->ν'.y=some l)
theorem Names.le_refl (ν:Names):ν.le ν:=⟨fun _ _ h=>h,fun _ h=>h⟩
theorem Names.none_le (ν:Names):Names.none.le ν:=⟨fun _ _ h=>by simp [Names.none] at h,fun _ h=>by simp [Names.none] at h⟩
theorem xva {w w':World} {b:Nat} (h:w'.heap[b]?=w.heap[b]?) (o:Nat):w'.cell? ⟨b,o,.none⟩=w.cell? ⟨b,o,.none⟩:=by
 simp [World.cell?,h]
theorem xD6 {G G' J J':Nat->Prop} {kd:Kd} {b:Nat} (hG:∀ b,G b->G' b) (hJ:∀ b,J b->J' b\/G' b) (h:xo2 G J kd b):xo2 G' J' kd b:=by
 cases kd with
 | g=>exact hG _ h
 | b=>exact h.elim (hJ _) (fun h=>.inr (hG _ h))
 | n=>exact h.elim (hJ _) (fun h=>.inr (hG _ h))
theorem xEe {G' J J':Nat->Prop} {kd:Kd} (hJ:∀ b,J b->J' b\/G' b):∀ b,xkw J kd b->xkw J' kd b\/G' b:=by
 cases kd with
 | g=>exact fun _ h=>h.elim
 | b=>exact fun _ h=>h.elim
 | n=>exact hJ
theorem xsl {J:Nat->Prop} {kd:Kd}:∀ b,xkw J kd b->J b:=by
 cases kd with
 | g=>exact fun _ h=>h.elim
 | b=>exact fun _ h=>h.elim
 | n=>exact fun _ h=>h
theorem xH7 {G J:Nat->Prop} {kd:Kd} {b:Nat} (h:xo2 G J kd b):J b\/G b:=by
 cases kd with
 | g=>exact .inr h
 | b=>exact h
 | n=>exact h
mutual
theorem xdb {w w':World} {G G':Nat->Prop} (hG:∀ b,G b->G' b) (hw:∀ b,G b->w'.heap[b]?=w.heap[b]?) (hs:∀ b,xbq w b<=xbq w' b) :
    ∀ (c:AV) {ν ν':Names} {J J':Nat->Prop} {v:Value},ν.le ν'->(∀ b,J b->J' b\/G' b)->(∀ b,J b->w'.heap[b]?=w.heap[b]?) ->
      Rel w G c ν J v->Rel w' G' c ν' J' v
 | .any,_,_,_,_,_,_,_,_,_=>trivial
 | .pan _,_,_,_,_,_,_,_,_,h=>h
 | .und,_,_,_,_,_,_,_,_,h=>h
 | .int _ _,_,_,_,_,_,_,_,_,h=>h
 | .bool _,_,_,_,_,_,_,_,_,h=>h
 | .agg cs,_,_,_,_,_,hν,hJ,hJw,h=>by
   simp only [Rel] at h ⊢;obtain ⟨vs,e,h⟩:=h;exact ⟨vs,e,xc1 hG hw hs cs hν hJ hJw h⟩
 | .tup cs,_,_,_,_,_,hν,hJ,hJw,h=>by
   simp only [Rel] at h ⊢;obtain ⟨vs,e,h⟩:=h;exact ⟨vs,e,xc1 hG hw hs cs hν hJ hJw h⟩
 | .nilp,_,_,_,_,_,_,_,_,h=>h
 | .ptr _ _ _ _,_,_,_,_,_,hν,_,_,h=>by
   simp only [Rel] at h ⊢;obtain ⟨b,e,h⟩:=h;exact ⟨b,hν.1 _ _ e,h⟩
 | .eptr kd cs,_,_,_,_,_,_,hJ,hJw,h=>by
   simp only [Rel] at h ⊢;obtain ⟨b,o,e,hb,h⟩:=h;exact ⟨b,o,e,xD6 hG hJ hb,xvi hG hw hs cs (Names.le_refl _) (xEe hJ) (fun b h=>hJw b (xsl b h)) ((xH7 hb).elim (hJw _) (hw _)) h⟩
 | .nils,_,_,_,_,_,_,_,_,h=>h
 | .ro kd c0 s es,_,_,_,_,_,_,hJ,hJw,h=>by
   simp only [Rel] at h ⊢;rcases h with h | ⟨b,o,cap,e,h1,h2,hb,h⟩
   ·exact .inl h
   refine .inr ⟨b,o,cap,e,h1,h2,fun hn=>xD6 hG hJ (hb hn),?_⟩;by_cases hn:es=[]
   ·subst hn;trivial
   ·exact xqe hG hw hs es (Names.le_refl _) (xEe hJ) (fun b h=>hJw b (xsl b h)) ((xH7 (hb hn)).elim (hJw _) (hw _)) h
 | .sl _ _ _ _ _,_,_,_,_,_,hν,_,_,h=>by
   simp only [Rel] at h ⊢;obtain ⟨b,o,c,e,h1,h2,h3,h4,h5⟩:=h;exact ⟨b,o,c,hν.1 _ _ e,h1,h2,h3,h4,Nat.le_trans h5 (hs b)⟩
 | .nilf,_,_,_,_,_,_,_,_,h=>h
 | .fn _ a c,_,_,_,_,_,hν,hJ,hJw,h=>by
   simp only [Rel] at h ⊢;obtain ⟨as,cs,e,h1,h2⟩:=h;exact ⟨as,cs,e,xc1 hG hw hs a hν hJ hJw h1,xc1 hG hw hs c hν hJ hJw h2⟩
 | .yl,_,_,_,_,_,hν,_,_,h=>by
   simp only [Rel] at h ⊢;obtain ⟨l,e,h⟩:=h;exact ⟨l,hν.2 _ e,h⟩
 | .nili,_,_,_,_,_,_,_,_,h=>h
 | .ifc _ x,_,_,_,_,_,hν,hJ,hJw,h=>by
   simp only [Rel] at h ⊢;obtain ⟨u,e,h⟩:=h;exact ⟨u,e,xdb hG hw hs x hν hJ hJw h⟩
 | .nilm,_,_,_,_,_,_,_,_,h=>h
 | .mp _,_,_,_,_,_,hν,_,_,h=>by
   simp only [Rel] at h ⊢;obtain ⟨b,e,h⟩:=h;exact ⟨b,hν.1 _ _ e,h⟩
theorem xc1 {w w':World} {G G':Nat->Prop} (hG:∀ b,G b->G' b) (hw:∀ b,G b->w'.heap[b]?=w.heap[b]?) (hs:∀ b,xbq w b<=xbq w' b) :
    ∀ (cs:List AV) {ν ν':Names} {J J':Nat->Prop} {vs:List Value},ν.le ν'->(∀ b,J b->J' b\/G' b)->(∀ b,J b->w'.heap[b]?=w.heap[b]?) ->
      xae w G cs ν J vs->xae w' G' cs ν' J' vs
 | [],_,_,_,_,_,_,_,_,h=>by simpa only [xae] using h
 | c :: cs,_,_,_,_,_,hν,hJ,hJw,h=>by
   simp only [xae] at h ⊢;obtain ⟨u,us,e,h1,h2⟩:=h;exact ⟨u,us,e,xdb hG hw hs c hν hJ hJw h1,xc1 hG hw hs cs hν hJ hJw h2⟩
theorem xvi {w w':World} {G G':Nat->Prop} (hG:∀ b,G b->G' b) (hw:∀ b,G b->w'.heap[b]?=w.heap[b]?) (hs:∀ b,xbq w b<=xbq w' b) :
    ∀ (cs:List AV) {ν ν':Names} {J J':Nat->Prop} {b o:Nat},ν.le ν'->(∀ b,J b->J' b\/G' b)->(∀ b,J b->w'.heap[b]?=w.heap[b]?) ->
      w'.heap[b]?=w.heap[b]?->xcf w G cs ν J b o->xcf w' G' cs ν' J' b o
 | [],_,_,_,_,_,_,_,_,_,_,_=>by simp only [xcf]
 | c :: cs,_,_,_,_,_,_,hν,hJ,hJw,hb,h=>by
   simp only [xcf] at h ⊢;obtain ⟨⟨u,e,h0,h1⟩,h2⟩:=h;exact ⟨⟨u,by rw [xva hb];exact e,h0,xdb hG hw hs c hν hJ hJw h1⟩,xvi hG hw hs cs hν hJ hJw hb h2⟩
theorem xqe {w w':World} {G G':Nat->Prop} (hG:∀ b,G b->G' b) (hw:∀ b,G b->w'.heap[b]?=w.heap[b]?) (hs:∀ b,xbq w b<=xbq w' b) :
    ∀ (es:List (List AV)) {ν ν':Names} {J J':Nat->Prop} {b o s:Nat},ν.le ν'->(∀ b,J b->J' b\/G' b)->(∀ b,J b->w'.heap[b]?=w.heap[b]?) ->
      w'.heap[b]?=w.heap[b]?->xc2 w G es ν J b o s->xc2 w' G' es ν' J' b o s
 | [],_,_,_,_,_,_,_,_,_,_,_,_=>by simp only [xc2]
 | e :: es,_,_,_,_,_,_,_,hν,hJ,hJw,hb,h=>by
   simp only [xc2] at h ⊢;obtain ⟨hl,h1,h2⟩:=h;exact ⟨hl,xvi hG hw hs e hν hJ hJw hb h1,xqe hG hw hs es hν hJ hJw hb h2⟩
end
section
variable {w:World} {G J:Nat->Prop} {ν:Names}
theorem xb9:∀ {cs:List AV} {vs:List Value},xae w G cs ν J vs->cs.length=vs.length
 | [],_,h=>by simp only [xae] at h;simp [h]
 | c :: cs,_,h=>by
   simp only [xae] at h;obtain ⟨u,us,rfl,_,h⟩:=h;simp [xb9 h]
theorem xa6 {c:AV} {cs:List AV} {v:Value} {vs:List Value} (h:Rel w G c ν J v) (hs:xae w G cs ν J vs):xae w G (c::cs) ν J (v::vs):=by
 simp only [xae];exact ⟨v,vs,rfl,h,hs⟩
theorem xbh:xae w G [] ν J []:=by simp only [xae]
theorem xcd:∀ {cs:List AV} {vs:List Value} {ds:List AV} {us:List Value},xae w G cs ν J vs->xae w G ds ν J us->xae w G (cs++ds) ν J (vs++us)
 | [],_,_,_,h,h'=>by simp only [xae] at h;subst h;exact h'
 | c :: cs,_,_,_,h,h'=>by
   simp only [xae] at h;obtain ⟨u,us,rfl,h1,h2⟩:=h;exact xa6 h1 (xcd h2 h')
theorem xk5:∀ {cs:List AV} {vs:List Value} {i:Nat} {c:AV},xae w G cs ν J vs->cs[i]?=some c->∃ v,vs[i]?=some v/\Rel w G c ν J v
 | c :: cs,_,0,_,h,e=>by
   simp only [xae] at h;obtain ⟨u,us,rfl,h1,h2⟩:=h;simp at e;subst e;exact ⟨u,rfl,h1⟩
 | c :: cs,_,i+1,_,h,e=>by
   simp only [xae] at h;obtain ⟨u,us,rfl,h1,h2⟩:=h;simp at e;obtain ⟨v,hv,hr⟩:=xk5 h2 e;exact ⟨v,by simpa using hv,hr⟩
theorem xys:∀ {cs:List AV} {vs:List Value} (i:Nat) {c:AV} {v:Value},xae w G cs ν J vs->Rel w G c ν J v->xae w G (cs.set i c) ν J (vs.set i v)
 | [],_,_,_,_,h,_=>by simp only [xae] at h;subst h;simpa using xbh
 | c :: cs,_,0,_,_,h,hc=>by
   simp only [xae] at h;obtain ⟨u,us,rfl,h1,h2⟩:=h;exact xa6 hc h2
 | c :: cs,_,i+1,_,_,h,hc=>by
   simp only [xae] at h;obtain ⟨u,us,rfl,h1,h2⟩:=h;exact xa6 h1 (xys i h2 hc)
theorem xhf:∀ {cs:List AV} {vs:List Value} (n:Nat),xae w G cs ν J vs->xae w G (cs.take n) ν J (vs.take n)
 | [],_,n,h=>by simp only [xae] at h;subst h;simpa using xbh
 | c::cs,_,0,h=>by simpa using xbh
 | c :: cs,_,n+1,h=>by
   simp only [xae] at h;obtain ⟨u,us,rfl,h1,h2⟩:=h;exact xa6 h1 (xhf n h2)
theorem xjt:∀ {cs:List AV} {vs:List Value} (n:Nat),xae w G cs ν J vs->xae w G (cs.drop n) ν J (vs.drop n)
 | [],_,n,h=>by simp only [xae] at h;subst h;simpa using xbh
 | c::cs,_,0,h=>by simpa using h
 | c :: cs,_,n+1,h=>by
   simp only [xae] at h;obtain ⟨u,us,rfl,h1,h2⟩:=h;simpa using xjt n h2
theorem xxc:∀ {cs ds:List AV} {b o:Nat},xcf w G cs ν J b o->xcf w G ds ν J b (o+cs.length)->xcf w G (cs++ds) ν J b o
 | [],_,_,_,_,h'=>by simpa using h'
 | c :: cs,ds,b,o,h,h'=>by
   simp only [xcf,List.cons_append] at h ⊢;exact ⟨h.1,xxc h.2 (by simpa [Nat.add_assoc,Nat.add_comm 1] using h')⟩
theorem xnn:∀ {cs:List AV} {b o:Nat} (n:Nat),xcf w G cs ν J b o->xcf w G (cs.take n) ν J b o
 | [],_,_,_,h=>by simp only [List.take_nil,xcf]
 | c::cs,_,_,0,h=>by simp only [List.take_zero,xcf]
 | c :: cs,_,_,n+1,h=>by
   simp only [xcf,List.take_succ_cons] at h ⊢;exact ⟨h.1,xnn n h.2⟩
theorem xia:∀ {cs:List AV} {b o:Nat} (n:Nat),xcf w G cs ν J b o->xcf w G (cs.drop n) ν J b (o+n)
 | [],_,_,_,h=>by simp only [List.drop_nil,xcf]
 | c::cs,_,_,0,h=>by simpa using h
 | c :: cs,b,o,n+1,h=>by
   simp only [xcf,List.drop_succ_cons] at h ⊢;have:=xia n h.2;simpa [Nat.add_assoc,Nat.add_comm 1] using this
theorem xyv:∀ {cs:List AV} {b o i:Nat} {c:AV},xcf w G cs ν J b o->cs[i]?=some c->∃ v,w.cell? ⟨b,o+i,.none⟩=some v/\v.oneCell'=true/\Rel w G c ν J v
 | c :: cs,_,_,0,_,h,e=>by
   simp only [xcf] at h;simp at e;subst e;exact h.1
 | c :: cs,b,o,i+1,_,h,e=>by
   simp only [xcf] at h;simp at e;obtain ⟨v,h1,h2,h3⟩:=xyv h.2 e;exact ⟨v,by simpa [Nat.add_assoc,Nat.add_comm 1] using h1,h2,h3⟩
theorem xnm:∀ {cs:List AV} {b o:Nat},xcf w G cs ν J b o->∃ vs,xae w G cs ν J vs/\(∀ v∈vs,v.oneCell'=true)/\∀ i v,vs[i]?=some v->w.cell? ⟨b,o+i,.none⟩=some v
 | [],_,_,_=>⟨[],xbh,fun v h=>by simp at h,fun i v h=>by simp at h⟩
 | c :: cs,b,o,h=>by
   simp only [xcf] at h;obtain ⟨⟨u,hu,h1,hr⟩,h2⟩:=h;obtain ⟨vs,hvs,ho,hc⟩:=xnm h2;refine ⟨u::vs,xa6 hr hvs,fun v hv=>(List.mem_cons.1 hv).elim (fun e=>e ▸ h1) (ho v),fun i v hv=>?_⟩;cases i with
   | zero=>simp at hv;subst hv;exact hu
   | succ i=>simp at hv;have:=hc i v hv;simpa [Nat.add_assoc,Nat.add_comm 1] using this
theorem xpj:∀ {cs:List AV} {vs:List Value} {b o:Nat},xae w G cs ν J vs->(∀ v∈vs,v.oneCell'=true)->(∀ i v,vs[i]?=some v->w.cell? ⟨b,o+i,.none⟩=some v)->xcf w G cs ν J b o
 | [],_,_,_,_,_,_=>by simp only [xcf]
 | c :: cs,_,b,o,h,h1',hc=>by
   simp only [xae] at h;obtain ⟨u,us,rfl,h1,h2⟩:=h;simp only [xcf];exact ⟨⟨u,hc 0 u rfl,h1' u (by simp),h1⟩,xpj h2 (fun v hv=>h1' v (by simp [hv])) fun i v hv=>by have:=hc (i+1) v (by simpa using hv);simpa [Nat.add_assoc,Nat.add_comm 1] using this⟩
theorem xk6:∀ {es:List (List AV)} {b o s k:Nat} {e:List AV},xc2 w G es ν J b o s->es[k]?=some e->e.length=s/\xcf w G e ν J b (o+k*s)
 | e :: es,_,_,_,0,_,h,he=>by
   simp only [xc2] at h;simp at he;subst he;exact ⟨h.1,by simpa using h.2.1⟩
 | e :: es,b,o,s,k+1,_,h,he=>by
   simp only [xc2] at h;simp at he;obtain ⟨h1,h2⟩:=xk6 h.2.2 he;exact ⟨h1,by rw [show o+(k+1)*s=o+s+k*s by rw [Nat.succ_mul];omega];exact h2⟩
theorem xwt:∀ {es:List (List AV)} {b o s:Nat},(∀ k e,es[k]?=some e->e.length=s/\xcf w G e ν J b (o+k*s))->xc2 w G es ν J b o s
 | [],_,_,_,_=>by simp only [xc2]
 | e :: es,b,o,s,h=>by
   simp only [xc2];obtain ⟨h1,h2⟩:=h 0 e rfl;refine ⟨h1,by simpa using h2,xwt fun k e' he=>?_⟩;obtain ⟨h3,h4⟩:=h (k+1) e' (by simpa using he);exact ⟨h3,by rw [show o+s+k*s=o+(k+1)*s by rw [Nat.succ_mul];omega];exact h4⟩
theorem xqd {es:List (List AV)} {b o s:Nat} (n:Nat) (h:xc2 w G es ν J b o s):xc2 w G (es.take n) ν J b o s:=
 xwt fun k e he=>xk6 h (by rw [List.getElem?_take] at he;split at he;exact he;cases he)
theorem xqf {es:List (List AV)} {b o s:Nat} (n:Nat) (h:xc2 w G es ν J b o s):xc2 w G (es.drop n) ν J b (o+n*s) s:=
 xwt fun k e he=>by
  rw [List.getElem?_drop] at he;obtain ⟨h1,h2⟩:=xk6 h he;exact ⟨h1,by rw [show o+n*s+k*s=o+(n+k)*s by rw [Nat.add_mul];omega];exact h2⟩
end
theorem xc9 {w:World} {G:Nat->Prop} {ν ν':Names} {J J':Nat->Prop} {m:AV->AV}
    (h:∀ c v,Rel w G c ν J v->Rel w G (m c) ν' J' v):∀ {cs:List AV} {vs:List Value},xae w G cs ν J vs->xae w G (cs.map m) ν' J' vs
 | [],_,hs=>by simp only [xae] at hs;subst hs;exact xbh
 | c :: cs,_,hs=>by
   simp only [xae] at hs;obtain ⟨u,us,rfl,h1,h2⟩:=hs;exact xa6 (h _ _ h1) (xc9 h h2)
theorem xsb {w:World} {G:Nat->Prop} {ν ν':Names} {J J':Nat->Prop} {m:AV->AV}
    (h:∀ c v,Rel w G c ν J v->Rel w G (m c) ν' J' v):∀ {cs:List AV} {b o:Nat},xcf w G cs ν J b o->xcf w G (cs.map m) ν' J' b o
 | [],_,_,_=>by simp only [List.map_nil,xcf]
 | c :: cs,_,_,hs=>by
   simp only [xcf,List.map_cons] at hs ⊢;obtain ⟨⟨u,e,h0,h1⟩,h2⟩:=hs;exact ⟨⟨u,e,h0,h _ _ h1⟩,xsb h h2⟩
theorem xqk {w:World} {G:Nat->Prop} {ν ν':Names} {J J':Nat->Prop} {m:AV->AV}
    (h:∀ c v,Rel w G c ν J v->Rel w G (m c) ν' J' v):∀ {es:List (List AV)} {b o s:Nat},xc2 w G es ν J b o s->xc2 w G (es.map fun e=>e.map m) ν' J' b o s
 | [],_,_,_,_=>by simp only [List.map_nil,xc2]
 | e :: es,_,_,_,hs=>by
   simp only [xc2,List.map_cons,List.length_map] at hs ⊢;exact ⟨hs.1,xsb h hs.2.1,xqk h hs.2.2⟩
theorem xWy {w:World} {G:Nat->Prop} {ν:Names} {J J':Nat->Prop} {c:AV} {v:Value} (hJ:∀ b,J b->J' b\/G b) (h:Rel w G c ν J v):Rel w G c ν J' v:=
 xdb (fun _ h=>h) (fun _ _=>rfl) (fun _=>Nat.le_refl _) c (Names.le_refl _) hJ (fun _ _=>rfl) h
theorem xh6 {w:World} {G:Nat->Prop} {ν ν':Names} {J J':Nat->Prop} {kb ky:Bool} {ρ:Nat->Option Nat}
    (hρ:∀ i i',ρ i=some i'->∀ b,ν.φ i=some b->ν'.φ i'=some b) (hy:ky=true->∀ l,ν.y=some l->ν'.y=some l) (hb:kb=true->∀ b,J b->J' b\/G b) :
    ∀ (f:Nat) (c:AV) (v:Value),Rel w G c ν J v->Rel w G (mv kb ky ρ f c) ν' J' v:=by
 intro f;induction f with
 | zero=>intro c v _;simp only [mv,Rel]
 | succ f ih=>
   intro c v h;cases c with
   | any=>simp only [mv,Rel]
   | pan t=>simpa only [mv,Rel] using h
   | und=>simpa only [mv,Rel] using h
   | int k n=>simpa only [mv,Rel] using h
   | bool b=>simpa only [mv,Rel] using h
   | agg cs=>
     simp only [mv,Rel] at h ⊢;obtain ⟨vs,e,h⟩:=h;exact ⟨vs,e,xc9 ih h⟩
   | tup cs=>
     simp only [mv,Rel] at h ⊢;obtain ⟨vs,e,h⟩:=h;exact ⟨vs,e,xc9 ih h⟩
   | nilp=>simpa only [mv,Rel] using h
   | ptr i s k j=>
     simp only [mv];cases e:ρ i with
     | none=>simp only [Rel]
     | some i'=>
       simp only [Rel] at h ⊢;obtain ⟨b,hb,h⟩:=h;exact ⟨b,hρ _ _ e _ hb,h⟩
   | eptr kd cs=>
     cases kd with
     | g=>simp only [mv];simpa only [Rel,xo2,xkw] using h
     | b =>
       simp only [mv];cases hk:kb with
       | false=>simp [Rel]
       | true=>simp only [if_true];exact xdb (fun _ h=>h) (fun _ _=>rfl) (fun _=>Nat.le_refl _) (.eptr .b cs) (Names.none_le _) (hb hk) (fun _ _=>rfl) (by simpa only [Rel] using h)
     | n =>
       simp only [mv];cases hk:kb with
       | false=>simp [Rel]
       | true=>simp only [if_true];exact xdb (fun _ h=>h) (fun _ _=>rfl) (fun _=>Nat.le_refl _) (.eptr .n cs) (Names.none_le _) (hb hk) (fun _ _=>rfl) (by simpa only [Rel] using h)
   | nils=>simpa only [mv,Rel] using h
   | ro kd c0 s es=>
     cases kd with
     | g=>simp only [mv];simpa only [Rel,xo2,xkw] using h
     | b =>
       simp only [mv];cases hk:kb with
       | false=>simp [Rel]
       | true=>simp only [if_true];exact xdb (fun _ h=>h) (fun _ _=>rfl) (fun _=>Nat.le_refl _) (.ro .b c0 s es) (Names.none_le _) (hb hk) (fun _ _=>rfl) (by simpa only [Rel] using h)
     | n =>
       simp only [mv];cases hk:kb with
       | false=>simp [Rel]
       | true=>simp only [if_true];exact xdb (fun _ h=>h) (fun _ _=>rfl) (fun _=>Nat.le_refl _) (.ro .n c0 s es) (Names.none_le _) (hb hk) (fun _ _=>rfl) (by simpa only [Rel] using h)
   | sl i s lo n cap=>
     simp only [mv];cases e:ρ i with
     | none=>simp only [Rel]
     | some i'=>
       simp only [Rel] at h ⊢;obtain ⟨b,o,c,hb,h⟩:=h;exact ⟨b,o,c,hρ _ _ e _ hb,h⟩
   | nilf=>simpa only [mv,Rel] using h
   | fn g a c=>
     simp only [mv,Rel] at h ⊢;obtain ⟨as,cs,e,h1,h2⟩:=h;exact ⟨as,cs,e,xc9 ih h1,xc9 ih h2⟩
   | yl =>
     simp only [mv];cases hk:ky with
     | false=>simp [Rel]
     | true=>
       simp only [Rel,if_true] at h ⊢;obtain ⟨l,e,h⟩:=h;exact ⟨l,hy hk _ e,h⟩
   | nili=>simpa only [mv,Rel] using h
   | ifc t x=>
     simp only [mv,Rel] at h ⊢;obtain ⟨u,e,h⟩:=h;exact ⟨u,e,ih _ _ h⟩
   | nilm=>simpa only [mv,Rel] using h
   | mp i=>
     simp only [mv];cases e:ρ i with
     | none=>simp only [Rel]
     | some i'=>
       simp only [Rel] at h ⊢;obtain ⟨b,hb,h⟩:=h;exact ⟨b,hρ _ _ e _ hb,h⟩
def nu (ν:Names):Bool->Names
 | true=>Names.none
 | false=>ν
def ju (J:Nat->Prop):Bool->Nat->Prop
 | true=>fun _=>False
 | false=>J
def xgx (w:World) (G:Nat->Prop) (ν:Names) (J:Nat->Prop):List (AV×AV)->List MapEntry->Prop
 | [],es=>es=[]
 | p::r,es=>∃ e es',es=e::es'/\Rel w G p.1 ν J e.key/\Rel w G p.2 ν J e.val/\xgx w G ν J r es'
def xev (w:World) (G:Nat->Prop) (ν:Names) (J:Nat->Prop) (b:Nat):Blk->Prop
 | .row s es flat=>(∃ cells elem,w.heap[b]?=some (.cells cells elem (0,0))/\es.length*s<=cells.size)/\xc2 w G es (nu ν flat) (ju J flat) b 0 s
 | .map kvs=>∃ es clock,w.heap[b]?=some (.map es clock)/\xgx w G ν J kvs es.toList
theorem xEx {w w':World} {G G':Nat->Prop} {ν ν':Names} {J J':Nat->Prop} {m:AV->AV} (h:∀ c v,Rel w G c ν J v->Rel w' G' (m c) ν' J' v):∀ {kvs:List (AV×AV)} {es:List MapEntry},xgx w G ν J kvs es->xgx w' G' ν' J' (kvs.map fun p=>(m p.1,m p.2)) es
 | [],_,e=>e
 | p :: r,es,hr=>by
   obtain ⟨e,es',e1,h1,h2,h3⟩:=hr;exact ⟨e,es',e1,h _ _ h1,h _ _ h2,xEx h h3⟩
theorem xs4 {w w':World} {G G':Nat->Prop} {ν ν':Names} {J J':Nat->Prop} (h:∀ c v,Rel w G c ν J v->Rel w' G' c ν' J' v):∀ {kvs:List (AV×AV)} {es:List MapEntry},xgx w G ν J kvs es->xgx w' G' ν' J' kvs es
 | [],_,e=>e
 | p :: r,es,hr=>by
   obtain ⟨e,es',e1,h1,h2,h3⟩:=hr;exact ⟨e,es',e1,h _ _ h1,h _ _ h2,xs4 h h3⟩
theorem xEw {w:World} {G:Nat->Prop} {ν:Names} {J:Nat->Prop}:∀ {kvs:List (AV×AV)} {es:List MapEntry},xgx w G ν J kvs es->kvs.length=es.length
 | [],_,e=>by rw [e];rfl
 | p :: r,es,hr=>by
   obtain ⟨e,es',rfl,_,_,h3⟩:=hr;simp [xEw h3]
theorem xEy {w:World} {G:Nat->Prop} {ν:Names} {J:Nat->Prop}:∀ {kvs:List (AV×AV)} {es:List MapEntry} {p:AV×AV} {e:MapEntry},xgx w G ν J kvs es->Rel w G p.1 ν J e.key->Rel w G p.2 ν J e.val->xgx w G ν J (kvs++[p]) (es++[e])
 | [],_,p,e,hr,h1,h2=>by
   have hr:_=[]:=hr;subst hr;exact ⟨e,[],rfl,h1,h2,rfl⟩
 | q :: r,es,p,e,hr,h1,h2=>by
   obtain ⟨e',es',rfl,h3,h4,h5⟩:=hr;exact ⟨e',es'++[e],rfl,h3,h4,xEy h5 h1 h2⟩
theorem xEv {w:World} {G:Nat->Prop} {ν:Names} {J:Nat->Prop}:∀ {kvs:List (AV×AV)} {es:List MapEntry} {i:Nat} {p:AV×AV} {f:MapEntry->MapEntry},xgx w G ν J kvs es->(∀ e,es[i]?=some e->Rel w G p.1 ν J (f e).key/\Rel w G p.2 ν J (f e).val)->xgx w G ν J (kvs.set i p) (es.modify i f)
 | [],_,i,p,f,hr,_=>by
   have hr:_=[]:=hr;subst hr;cases i <;> rfl
 | q :: r,es,0,p,f,hr,h=>by
   obtain ⟨e',es',rfl,h3,h4,h5⟩:=hr;obtain ⟨h6,h7⟩:=h e' rfl;exact ⟨f e',es',by simp,h6,h7,h5⟩
 | q :: r,es,i+1,p,f,hr,h=>by
   obtain ⟨e',es',rfl,h3,h4,h5⟩:=hr;exact ⟨e',es'.modify i f,by simp,h3,h4,xEv h5 fun e he=>h e (by simpa using he)⟩
theorem xxe {w:World} {G:Nat->Prop} {ν:Names} {J:Nat->Prop}:∀ {kvs:List (AV×AV)} {es:List MapEntry} {i:Nat},xgx w G ν J kvs es->xgx w G ν J (kvs.eraseIdx i) (es.eraseIdx i)
 | [],_,i,hr=>by
   have hr:_=[]:=hr;subst hr;cases i <;> rfl
 | q :: r,es,0,hr=>by
   obtain ⟨e',es',rfl,h3,h4,h5⟩:=hr;exact h5
 | q :: r,es,i+1,hr=>by
   obtain ⟨e',es',rfl,h3,h4,h5⟩:=hr;exact ⟨e',es'.eraseIdx i,by simp,h3,h4,xxe h5⟩
def Own (ν:Names) (h:xap) (b:Nat):Prop:=∃ i B,xag h i=some B/\ν.φ i=some b
theorem xS0 {w:World} {G:Nat->Prop} {ν:Names} {J J':Nat->Prop} {look:Nat->Option Blk}
    (hl:∀ i B,look i=some B->∃ b,ν.φ i=some b/\J' b/\xev w G ν J b B) (hJ:∀ b,J b->J' b\/G b) :
    ∀ (f:Nat) (c:AV) (v:Value),Rel w G c ν J v->Rel w G (fz look f c) Names.none J' v:=by
 intro f;induction f with
 | zero=>intro c v _;simp only [fz,Rel]
 | succ f ih=>
   intro c v h;cases c with
   | any=>simp only [fz,Rel]
   | pan t=>simp only [fz,Rel]
   | und=>simpa only [fz,Rel] using h
   | int k n=>simpa only [fz,Rel] using h
   | bool b=>simpa only [fz,Rel] using h
   | agg cs=>
     simp only [fz,Rel] at h ⊢;obtain ⟨vs,e,h⟩:=h;exact ⟨vs,e,xc9 ih h⟩
   | tup cs=>simp only [fz,Rel]
   | nilp=>simpa only [fz,Rel] using h
   | ptr i s k j=>
     simp only [Rel] at h;obtain ⟨b,hb,hv⟩:=h;simp only [fz];split
     ·rename_i s' es flat hlk;split
      ·rename_i hs;subst hs;split
       ·rename_i cs hcs;obtain ⟨b',hb',hJb,_,hm⟩:=hl _ _ hlk;rw [hb] at hb';cases hb';obtain ⟨_,hm2⟩:=xk6 hm hcs;have hm3:=xia j hm2;cases flat with
        | true=>
          simp only [if_true,Rel];exact ⟨b,_,hv,.inl hJb,by simpa [nu,ju,xkw] using hm3⟩
        | false=>
          simp only [Bool.false_eq_true,if_false,Rel];exact ⟨b,_,hv,.inl hJb,xsb ih (by simpa [nu,ju] using hm3)⟩
       ·simp only [Rel]
      ·simp only [Rel]
     ·simp only [Rel]
   | eptr kd cs=>exact xWy hJ (by cases kd <;> simpa only [fz,Rel] using h)
   | nils=>simpa only [fz,Rel] using h
   | ro kd c0 s es=>exact xWy hJ (by cases kd <;> simpa only [fz,Rel] using h)
   | sl i s lo n cap=>
     simp only [Rel] at h;obtain ⟨b,o,c,hb,hv,hn,ho,hc,_⟩:=h;simp only [fz];split
     ·rename_i s' es flat hlk;split
      ·rename_i hs;obtain ⟨rfl,hle⟩:=hs;obtain ⟨b',hb',hJb,_,hm⟩:=hl _ _ hlk;rw [hb] at hb';cases hb';have hlen:((es.drop lo).take n).length=n:=by simp;omega
       have hm2:xc2 w G ((es.drop lo).take n) (nu ν flat) (ju J flat) b o s':=by
        by_cases hn0:0<n
        ·have:=xqd n (xqf lo hm);rw [ho (.inl hn0)];simpa using this
        ·have:n=0:=by omega
         subst this;simp [xc2]
       have hcap:(cap == some n)=true->c=n:=fun h=>hc _ (by simpa using h)
       cases flat with
       | true=>
         simp only [if_true,Rel,hlen];exact .inr ⟨b,o,c,hv,hn,hcap,fun _=>.inl hJb,by simpa [nu,ju,xkw] using hm2⟩
       | false=>
         simp only [Bool.false_eq_true,if_false,Rel,List.length_map,hlen];exact .inr ⟨b,o,c,hv,hn,hcap,fun _=>.inl hJb,xqk ih (by simpa [nu,ju] using hm2)⟩
      ·simp only [Rel]
     ·simp only [Rel]
   | nilf=>simpa only [fz,Rel] using h
   | fn g a c=>
     simp only [fz,Rel] at h ⊢;obtain ⟨as,cs,e,h1,h2⟩:=h;exact ⟨as,cs,e,xc9 ih h1,xc9 ih h2⟩
   | yl=>simp only [fz,Rel]
   | nili=>simpa only [fz,Rel] using h
   | ifc t x=>
     simp only [fz,Rel] at h ⊢;obtain ⟨u,e,h⟩:=h;exact ⟨u,e,ih _ _ h⟩
   | nilm=>simpa only [fz,Rel] using h
   | mp i=>simp only [fz,Rel]
theorem xCz {w:World} {G G':Nat->Prop} {ν0:Names} {J0:Nat->Prop} {look:Nat->Option Blk} (hG:∀ b,G b->G' b)
    (hl:∀ i B,look i=some B->∃ b,ν0.φ i=some b/\G' b/\xev w G ν0 J0 b B) :
    ∀ (f:Nat) (c:AV) (v:Value) (ν:Names) (J:Nat->Prop),(ν=ν0/\J=J0)\/(ν=Names.none/\J=fun _=>False)->Rel w G c ν J v->Rel w G' (fzg look f c) Names.none (fun _=>False) v:=by
 intro f;induction f with
 | zero=>intro c v ν J _ _;simp only [fzg,Rel]
 | succ f ih=>
   intro c v ν J hν h;have hmap:∀ {cs:List AV} {vs:List Value},xae w G cs ν J vs->xae w G' (cs.map (fzg look f)) Names.none (fun _=>False) vs:=by
    intro cs;induction cs with
    | nil=>intro vs h;simp only [xae] at h;subst h;exact xbh
    | cons c cs ihc=>
      intro vs h;simp only [xae] at h;obtain ⟨u,us,rfl,h1,h2⟩:=h;exact xa6 (ih _ _ ν J hν h1) (ihc h2)
   have hmem:∀ {ν':Names} {J':Nat->Prop} {cs:List AV} {b o:Nat},(ν'=ν0/\J'=J0)\/(ν'=Names.none/\J'=fun _=>False)->xcf w G cs ν' J' b o->xcf w G' (cs.map (fzg look f)) Names.none (fun _=>False) b o:=by
    intro ν' J' cs;induction cs with
    | nil=>intro b o _ _;simp only [List.map_nil,xcf]
    | cons c cs ihc=>
      intro b o hν' h;simp only [xcf,List.map_cons] at h ⊢;obtain ⟨⟨u,e,h0,h1⟩,h2⟩:=h;exact ⟨⟨u,e,h0,ih _ _ ν' J' hν' h1⟩,ihc hν' h2⟩
   have hmemE:∀ {ν':Names} {J':Nat->Prop} {es:List (List AV)} {b o s:Nat},(ν'=ν0/\J'=J0)\/(ν'=Names.none/\J'=fun _=>False)->xc2 w G es ν' J' b o s->xc2 w G' (es.map fun e=>e.map (fzg look f)) Names.none (fun _=>False) b o s:=by
    intro ν' J' es;induction es with
    | nil=>intro b o s _ _;simp only [List.map_nil,xc2]
    | cons e es ihe=>
      intro b o s hν' h;simp only [xc2,List.map_cons,List.length_map] at h ⊢;exact ⟨h.1,hmem hν' h.2.1,ihe hν' h.2.2⟩
   have hflat:∀ (flat:Bool),(nu ν0 flat=ν0/\ju J0 flat=J0)\/(nu ν0 flat=Names.none/\ju J0 flat=fun _=>False):=fun flat=>by cases flat <;> simp [nu,ju]
   have up:∀ (c:AV),Rel w G c Names.none (fun _=>False) v->Rel w G' c Names.none (fun _=>False) v:=fun c h=>xdb hG (fun _ _=>rfl) (fun _=>Nat.le_refl _) c (Names.le_refl _) (fun _ h=>h.elim) (fun _ h=>h.elim) h
   cases c with
   | any=>simp only [fzg,Rel]
   | pan t=>simp only [fzg,Rel]
   | und=>simpa only [fzg,Rel] using h
   | int k n=>simpa only [fzg,Rel] using h
   | bool b=>simpa only [fzg,Rel] using h
   | agg cs=>
     simp only [fzg,Rel] at h ⊢;obtain ⟨vs,e,h⟩:=h;exact ⟨vs,e,hmap h⟩
   | tup cs=>
     simp only [fzg,Rel] at h ⊢;obtain ⟨vs,e,h⟩:=h;exact ⟨vs,e,hmap h⟩
   | nilp=>simpa only [fzg,Rel] using h
   | ptr i s k j=>
     simp only [Rel] at h;obtain ⟨b,hb,hv⟩:=h;simp only [fzg];split
     ·rename_i s' es flat hlk;split
      ·rename_i hs;subst hs;split
       ·rename_i cs hcs;obtain ⟨b',hb',hGb,_,hm⟩:=hl _ _ hlk;have hbb:b'=b:=by
         rcases hν with ⟨rfl,_⟩ | ⟨rfl,_⟩
         ·rw [hb] at hb';cases hb';rfl
         ·simp [Names.none] at hb
        subst hbb;obtain ⟨_,hm2⟩:=xk6 hm hcs;simp only [Rel];exact ⟨b',_,hv,hGb,hmem (hflat flat) (by have:=xia j hm2;rwa [Nat.zero_add] at this)⟩
       ·simp only [Rel]
      ·simp only [Rel]
     ·simp only [Rel]
   | eptr kd cs=>
     cases kd with
     | g=>simp only [fzg];exact up (.eptr .g cs) (by simpa only [Rel,xo2,xkw] using h)
     | b=>simp only [fzg,Rel]
     | n=>simp only [fzg,Rel]
   | nils=>simpa only [fzg,Rel] using h
   | ro kd c0 s es=>
     cases kd with
     | g=>simp only [fzg];exact up (.ro .g c0 s es) (by simpa only [Rel,xo2,xkw] using h)
     | b=>simp only [fzg,Rel]
     | n=>simp only [fzg,Rel]
   | sl i s lo n cap=>
     simp only [Rel] at h;obtain ⟨b,o,c,hb,hv,hn,ho,hc,_⟩:=h;simp only [fzg];split
     ·rename_i s' es flat hlk;split
      ·rename_i hs;obtain ⟨rfl,hle⟩:=hs;obtain ⟨b',hb',hGb,_,hm⟩:=hl _ _ hlk;have hbb:b'=b:=by
        rcases hν with ⟨rfl,_⟩ | ⟨rfl,_⟩
        ·rw [hb] at hb';cases hb';rfl
        ·simp [Names.none] at hb
       subst hbb;have hlen:((es.drop lo).take n).length=n:=by simp;omega
       have hm2:xc2 w G ((es.drop lo).take n) (nu ν0 flat) (ju J0 flat) b' o s':=by
        by_cases hn0:0<n
        ·have:=xqd n (xqf lo hm);rw [ho (.inl hn0)];simpa using this
        ·have:n=0:=by omega
         subst this;simp [xc2]
       have hcap:(cap == some n)=true->c=n:=fun h=>hc _ (by simpa using h)
       simp only [Rel,List.length_map,hlen];exact .inr ⟨b',o,c,hv,hn,hcap,fun _=>hGb,hmemE (hflat flat) hm2⟩
      ·simp only [Rel]
     ·simp only [Rel]
   | nilf=>simpa only [fzg,Rel] using h
   | fn g a c=>
     simp only [fzg,Rel] at h ⊢;obtain ⟨as,cs,e,h1,h2⟩:=h;exact ⟨as,cs,e,hmap h1,hmap h2⟩
   | yl=>simp only [fzg,Rel]
   | nili=>simpa only [fzg,Rel] using h
   | ifc t x=>
     simp only [fzg,Rel] at h ⊢;obtain ⟨u,e,h⟩:=h;exact ⟨u,e,ih _ _ ν J hν h⟩
   | nilm=>simpa only [fzg,Rel] using h
   | mp i=>simp only [fzg,Rel]
theorem xd9 (i:Nat):xag [] i=none:=by simp [xag]
theorem xCg (b:Option Blk) (h:xap):xag (b::h) 0=b:=by simp [xag]
theorem xj1 (b:Option Blk) (h:xap) (i:Nat):xag (b::h) (i+1)=xag h i:=by simp [xag]
theorem xU2 {h:xap} {i:Nat} {B:Blk} (e:xag h i=some B):i<h.length:=by
 unfold xag at e;rcases Nat.lt_or_ge i h.length with hl | hl
 ·exact hl
 ·rw [List.getElem?_eq_none hl] at e;simp at e
theorem xci:∀ (h:xap) (i j:Nat) (b:Option Blk),xag (xb7 h i b) j=if i=j then b else xag h j
 | [],0,0,b=>by simp [xb7,xag]
 | [],0,j+1,b=>by simp [xb7,xag]
 | [],i+1,0,b=>by simp [xb7,xag]
 | [],i+1,j+1,b=>by
   rw [xb7,xj1,xci];by_cases e:i=j <;> simp [e,xd9]
 | x::h,0,0,b=>by simp [xb7,xag]
 | x::h,0,j+1,b=>by simp [xb7,xag]
 | x::h,i+1,0,b=>by simp [xb7,xag]
 | x :: h,i+1,j+1,b=>by
   rw [xb7,xj1,xci,xj1];simp
theorem xeq:∀ (h:xap) (i:Nat) (b:Option Blk),(xb7 h i b).length=max h.length (i+1)
 | [],0,b=>by simp [xb7]
 | [],i+1,b=>by rw [xb7,List.length_cons,xeq];simp
 | x::h,0,b=>by simp [xb7]
 | x::h,i+1,b=>by rw [xb7,List.length_cons,xeq,List.length_cons];omega
theorem xgg {w w':World} {G G':Nat->Prop} {ν ν':Names} {J:Nat->Prop} {b:Nat} {B:Blk} (hG:∀ b,G b->G' b) (hw:∀ b,G b->w'.heap[b]?=w.heap[b]?) (hs:∀ b,xbq w b<=xbq w' b)
    (hJ:∀ b,J b->w'.heap[b]?=w.heap[b]?) (hν:ν.le ν') (hb:w'.heap[b]?=w.heap[b]?) (h:xev w G ν J b B):xev w' G' ν' J b B:=by
 cases B with
 | map kvs=>
   obtain ⟨es,clock,h1,h2⟩:=h;exact ⟨es,clock,hb.trans h1,xs4 (fun c v hc=>xdb hG hw hs c hν (fun _ h=>.inl h) hJ hc) h2⟩
 | row s es flat=>
   obtain ⟨⟨cells,elem,h1,h2⟩,h3⟩:=h;refine ⟨⟨cells,elem,hb.trans h1,h2⟩,?_⟩;cases flat with
   | true=>exact xqe hG hw hs es (Names.le_refl _) (fun _ h=>h.elim) (fun _ h=>h.elim) hb h3
   | false=>exact xqe hG hw hs es hν (fun _ h=>.inl h) hJ hb h3
theorem xE0 {w:World} {G:Nat->Prop} {ν:Names} {J:Nat->Prop} {b:Nat} {B:Blk} (h:xev w G ν J b B):b<w.heap.size:=by
 cases B with
 | map kvs=>
   obtain ⟨es,clock,h1,_⟩:=h;exact (Array.getElem?_eq_some_iff.1 h1).1
 | row s es flat=>
   obtain ⟨⟨cells,elem,h1,_⟩,_⟩:=h;exact (Array.getElem?_eq_some_iff.1 h1).1
structure SR (w:World) (G J U N:Nat->Prop) (ν:Names) (h:xap):Prop where
 blk:∀ i B,xag h i=some B->∃ b,ν.φ i=some b/\xev w G ν J b B
 inj:∀ i j B B' b,xag h i=some B->xag h j=some B'->ν.φ i=some b->ν.φ j=some b->i=j
 dom:∀ i b,ν.φ i=some b->i<h.length
 glt:∀ b,G b->b<w.heap.size
 jlt:∀ b,J b->b<w.heap.size
 nlt:∀ b,N b->b<w.heap.size
 gown:∀ b,G b->¬ Own ν h b
 jown:∀ b,J b->¬ Own ν h b
 nown:∀ b,N b->¬ Own ν h b
 gu:∀ b,G b->¬ U b
 ju:∀ b,J b->¬ U b
 un:∀ b,U b->N b
theorem SR.own_lt {w:World} {G J U N:Nat->Prop} {ν:Names} {h:xap} (S:SR w G J U N ν h) {b:Nat} (hb:Own ν h b):b<w.heap.size:=by
 obtain ⟨i,B,h1,h2⟩:=hb;obtain ⟨b',h3,h4⟩:=S.blk i B h1;rw [h2] at h3;cases h3;exact xE0 h4
theorem xJs {ν:Names} {h:xap} {i b:Nat} {B:Blk} (h1:xag h i=some B) (h2:ν.φ i=some b):Own ν h b:=⟨i,B,h1,h2⟩
structure Ext (w w':World) (G G' U U' N N' O O':Nat->Prop):Prop where
 size:w.heap.size<=w'.heap.size
 keep:∀ b,b<w.heap.size->¬ O b->¬ U b->w'.heap[b]?=w.heap[b]?
 own:∀ b,O' b->O b\/w.heap.size<=b
 u : ∀ b,U' b->U b\/O b\/w.heap.size<=b
 n : ∀ b,N' b->N b\/O b\/w.heap.size<=b
 g : ∀ b,G b->G' b
 g':∀ b,G' b->G b\/O b\/U b\/w.heap.size<=b
 sz:∀ b,xbq w b<=xbq w' b
 env:w'.os=w.os/\w'.output=w.output
theorem Ext.refl (w:World) (G U N O:Nat->Prop):Ext w w G G U U N N O O:=
 ⟨Nat.le_refl _,fun _ _ _ _=>rfl,fun _ h=>.inl h,fun _ h=>.inl h,fun _ h=>.inl h,fun _ h=>h,fun _ h=>.inl h,fun _=>Nat.le_refl _,rfl,rfl⟩
theorem Ext.trans {w w1 w2:World} {G G1 G2 U U1 U2 N N1 N2 O O1 O2:Nat->Prop} (a:Ext w w1 G G1 U U1 N N1 O O1) (b:Ext w1 w2 G1 G2 U1 U2 N1 N2 O1 O2) :
    Ext w w2 G G2 U U2 N N2 O O2 where
 size:=Nat.le_trans a.size b.size
 keep c hc ho hu:=by
  have h1:=a.keep c hc ho hu;have h2:=b.keep c (Nat.lt_of_lt_of_le hc a.size) (fun h=>(a.own c h).elim ho (by omega)) (fun h=>(a.u c h).elim hu (fun h=>h.elim ho (by omega)));exact h2.trans h1
 own c h:=(b.own c h).elim (fun h=>a.own c h) (fun h=>.inr (Nat.le_trans a.size h))
 u c h:=(b.u c h).elim (fun h=>a.u c h) (fun h=>h.elim (fun h=>.inr (a.own c h)) (fun h=>.inr (.inr (Nat.le_trans a.size h))))
 n c h:=(b.n c h).elim (fun h=>a.n c h) (fun h=>h.elim (fun h=>.inr (a.own c h)) (fun h=>.inr (.inr (Nat.le_trans a.size h))))
 g c h:=b.g c (a.g c h)
 g' c h:=by
  rcases b.g' c h with h | h | h | h
  ·exact a.g' c h
  ·exact (a.own c h).elim (fun h=>.inr (.inl h)) (fun h=>.inr (.inr (.inr h)))
  ·exact (a.u c h).elim (fun h=>.inr (.inr (.inl h))) (fun h=>h.elim (fun h=>.inr (.inl h)) (fun h=>.inr (.inr (.inr h))))
  ·exact .inr (.inr (.inr (Nat.le_trans a.size h)))
 sz c:=Nat.le_trans (a.sz c) (b.sz c)
 env:=⟨b.env.1.trans a.env.1,b.env.2.trans a.env.2⟩
section
variable {w w':World} {G G' J U U' N N':Nat->Prop} {ν ν':Names} {h h':xap}
theorem SR.keepG (S:SR w G J U N ν h) {O':Nat->Prop} (E:Ext w w' G G' U U' N N' (Own ν h) O'):∀ b,G b->w'.heap[b]?=w.heap[b]?:=
 fun b hb=>E.keep b (S.glt b hb) (S.gown b hb) (S.gu b hb)
theorem SR.keepJ (S:SR w G J U N ν h) {O':Nat->Prop} (E:Ext w w' G G' U U' N N' (Own ν h) O'):∀ b,J b->w'.heap[b]?=w.heap[b]?:=
 fun b hb=>E.keep b (S.jlt b hb) (S.jown b hb) (S.ju b hb)
theorem SR.rel (S:SR w G J U N ν h) {O':Nat->Prop} (E:Ext w w' G G' U U' N N' (Own ν h) O') (hν:ν.le ν') {c:AV} {v:Value} (r:Rel w G c ν J v):Rel w' G' c ν' J v:=
 xdb E.g (S.keepG E) E.sz c hν (fun _ h=>.inl h) (S.keepJ E) r
theorem SR.relL (S:SR w G J U N ν h) {O':Nat->Prop} (E:Ext w w' G G' U U' N N' (Own ν h) O') (hν:ν.le ν') {c:List AV} {v:List Value} (r:xae w G c ν J v):xae w' G' c ν' J v:=
 xc1 E.g (S.keepG E) E.sz c hν (fun _ h=>.inl h) (S.keepJ E) r
theorem SR.put (S:SR w G J U N ν h) {i b:Nat} {B:Blk} (hsz:w.heap.size<=w'.heap.size) (hs:∀ b,xbq w b<=xbq w' b) (hk:∀ b',b'<w.heap.size->b'≠b->w'.heap[b']?=w.heap[b']?)
    (hG:¬ G b) (hJ:¬ J b) (hN:¬ N b) (hfree:∀ j B,j≠i->xag h j=some B->ν.φ j≠some b)
    (hν:ν.le ν') (hi:ν'.φ i=some b) (ho:∀ j,j≠i->ν'.φ j=ν.φ j) (hB:xev w' G ν' J b B):SR w' G J U N ν' (xb7 h i (some B)) where
 blk j B' hj:=by
  rw [xci] at hj;split at hj
  ·rename_i e;subst e;cases hj;exact ⟨b,hi,hB⟩
  ·rename_i e;obtain ⟨b',h1,h2⟩:=S.blk j B' hj;have hne:b'≠b:=fun e'=>hfree j B' (Ne.symm e) hj (e' ▸ h1)
   exact ⟨b',hν.1 _ _ h1,xgg (fun _ h=>h) (fun c hc=>hk c (S.glt c hc) (fun e=>hG (e ▸ hc))) hs (fun c hc=>hk c (S.jlt c hc) (fun e=>hJ (e ▸ hc))) hν (hk b' (xE0 h2) hne) h2⟩
 inj j k B1 B2 c h1 h2 h3 h4:=by
  rw [xci] at h1 h2;by_cases e1:i=j <;> by_cases e2:i=k
  ·omega
  ·subst e1;rw [if_neg e2] at h2;rw [hi] at h3;cases h3;rw [ho k (Ne.symm e2)] at h4;exact absurd h4 (hfree k _ (Ne.symm e2) h2)
  ·subst e2;rw [if_neg e1] at h1;rw [hi] at h4;cases h4;rw [ho j (Ne.symm e1)] at h3;exact absurd h3 (hfree j _ (Ne.symm e1) h1)
  ·rw [if_neg e1] at h1;rw [if_neg e2] at h2;rw [ho j (Ne.symm e1)] at h3;rw [ho k (Ne.symm e2)] at h4;exact S.inj j k B1 B2 c h1 h2 h3 h4
 dom j c hj:=by
  rw [xeq];by_cases e:j=i
  ·subst e;omega
  ·rw [ho j e] at hj;have:=S.dom j c hj;omega
 glt c hc:=Nat.lt_of_lt_of_le (S.glt c hc) hsz
 jlt c hc:=Nat.lt_of_lt_of_le (S.jlt c hc) hsz
 nlt c hc:=Nat.lt_of_lt_of_le (S.nlt c hc) hsz
 gown c hc:=by
  rintro ⟨j,B',h1,h2⟩
  rw [xci] at h1;by_cases e:i=j
  ·subst e;rw [hi] at h2;cases h2;exact hG hc
  ·rw [if_neg e] at h1;rw [ho j (Ne.symm e)] at h2;exact S.gown c hc ⟨j,B',h1,h2⟩
 jown c hc:=by
  rintro ⟨j,B',h1,h2⟩
  rw [xci] at h1;by_cases e:i=j
  ·subst e;rw [hi] at h2;cases h2;exact hJ hc
  ·rw [if_neg e] at h1;rw [ho j (Ne.symm e)] at h2;exact S.jown c hc ⟨j,B',h1,h2⟩
 nown c hc:=by
  rintro ⟨j,B',h1,h2⟩
  rw [xci] at h1;by_cases e:i=j
  ·subst e;rw [hi] at h2;cases h2;exact hN hc
  ·rw [if_neg e] at h1;rw [ho j (Ne.symm e)] at h2;exact S.nown c hc ⟨j,B',h1,h2⟩
 gu:=S.gu
 ju:=S.ju
 un:=S.un
theorem xwr {i b:Nat} {B:Blk} (hi:ν'.φ i=some b) (ho:∀ j,j≠i->ν'.φ j=ν.φ j) {c:Nat} (hc:Own ν' (xb7 h i (some B)) c):c=b\/Own ν h c:=by
 obtain ⟨j,B',h1,h2⟩:=hc;rw [xci] at h1;by_cases e:i=j
 ·subst e;rw [hi] at h2;cases h2;exact .inl rfl
 ·rw [if_neg e] at h1;rw [ho j (Ne.symm e)] at h2;exact .inr ⟨j,B',h1,h2⟩
theorem SR.less (S:SR w G J U N ν h) (hl:∀ i B,xag h' i=some B->xag h i=some B) (hd:h.length<=h'.length):SR w G J U N ν h' where
 blk i B e:=S.blk i B (hl i B e)
 inj i j B B' b h1 h2:=S.inj i j B B' b (hl _ _ h1) (hl _ _ h2)
 dom i b e:=Nat.lt_of_lt_of_le (S.dom i b e) hd
 glt:=S.glt
 jlt:=S.jlt
 nlt:=S.nlt
 gown b hb:=fun ⟨i,B,h1,h2⟩=>S.gown b hb ⟨i,B,hl _ _ h1,h2⟩
 jown b hb:=fun ⟨i,B,h1,h2⟩=>S.jown b hb ⟨i,B,hl _ _ h1,h2⟩
 nown b hb:=fun ⟨i,B,h1,h2⟩=>S.nown b hb ⟨i,B,hl _ _ h1,h2⟩
 gu:=S.gu
 ju:=S.ju
 un:=S.un
theorem SR.kill (S:SR w G J U N ν h) (i:Nat):SR w G J U N ν (xb7 h i none):=
 S.less (fun j B e=>by rw [xci] at e;split at e;cases e;exact e) (by rw [xeq];omega)
theorem xVu {i c:Nat} (hc:Own ν (xb7 h i none) c):Own ν h c:=by
 obtain ⟨j,B',h1,h2⟩:=hc;rw [xci] at h1;split at h1
 ·cases h1
 ·exact ⟨j,B',h1,h2⟩
theorem SR.drew (S:SR w G J U N ν h) (hh:w'.heap=w.heap):SR w' G J U N ν h where
 blk i B e:=by
  obtain ⟨b,h1,h2⟩:=S.blk i B e;exact ⟨b,h1,xgg (fun _ h=>h) (fun _ _=>by rw [hh]) (fun _=>by rw [xbq,xbq,hh];exact Nat.le_refl _) (fun _ _=>by rw [hh]) (Names.le_refl _) (by rw [hh]) h2⟩
 inj:=S.inj
 dom:=S.dom
 glt b hb:=by rw [hh];exact S.glt b hb
 jlt b hb:=by rw [hh];exact S.jlt b hb
 nlt b hb:=by rw [hh];exact S.nlt b hb
 gown:=S.gown
 jown:=S.jown
 nown:=S.nown
 gu:=S.gu
 ju:=S.ju
 un:=S.un
end
def Names.with (ν:Names) (i b:Nat):Names:=⟨fun j=>if j=i then some b else ν.φ j,ν.y⟩
theorem Names.with_le {ν:Names} {i b:Nat} (h:ν.φ i=Option.none\/ν.φ i=some b):ν.le (ν.with i b):=
 ⟨fun j c hj=>by
  unfold Names.with;by_cases e:j=i
  ·subst e;rcases h with h | h <;> rw [h] at hj
   ·cases hj
   ·cases hj;simp
  ·simp [e,hj],fun _ h=>h⟩
theorem Names.with_at (ν:Names) (i b:Nat):(ν.with i b).φ i=some b:=by simp [Names.with]
theorem Names.with_other (ν:Names) (i b:Nat) {j:Nat} (h:j≠i):(ν.with i b).φ j=ν.φ j:=by simp [Names.with,h]
theorem SR.fresh {w:World} {G J U N:Nat->Prop} {ν:Names} {h:xap} (S:SR w G J U N ν h) {i:Nat} (hi:h.length<=i):ν.φ i=Option.none:=by
 cases e:ν.φ i with
 | none=>rfl
 | some b=>have:=S.dom i b e;omega
theorem xcg (w:World) (o:Obj) {b:Nat} (hb:b<w.heap.size):(w.alloc o).heap[b]?=w.heap[b]?:=by
 show (w.heap.push o)[b]?=_;rw [Array.getElem?_push,if_neg (Nat.ne_of_lt hb)]
theorem xeo (w:World) (o:Obj):(w.alloc o).heap[w.heap.size]?=some o:=by
 show (w.heap.push o)[w.heap.size]?=_;rw [Array.getElem?_push,if_pos rfl]
theorem xfb (w:World) (o:Obj):(w.alloc o).heap.size=w.heap.size+1:=Array.size_push ..
theorem SR.alloc {w:World} {G J U N:Nat->Prop} {ν:Names} {h:xap} (S:SR w G J U N ν h) {B:Blk} {o:Obj} {i:Nat} (hf:ν.φ i=Option.none)
    (hB:xev (w.alloc o) G (ν.with i w.heap.size) J w.heap.size B) :
    SR (w.alloc o) G J U N (ν.with i w.heap.size) (xb7 h i (some B)) /\
     Ext w (w.alloc o) G G U U N N (Own ν h) (Own (ν.with i w.heap.size) (xb7 h i (some B))):=by
 have hsz:∀ b,xbq w b<=xbq (w.alloc o) b:=fun b=>by
  by_cases hb:b<w.heap.size
  ·rw [xbq,xbq,xcg _ _ hb];exact Nat.le_refl _
  ·rw [xbq,Array.getElem?_eq_none (by omega)];exact Nat.zero_le _
 refine ⟨S.put (by rw [xfb];omega) hsz (fun b' hb' _=>xcg _ _ hb') (fun hg=>by have:=S.glt _ hg;omega) (fun hg=>by have:=S.jlt _ hg;omega)
  (fun hn=>by have:=S.nlt _ hn;omega) (fun j B' _ hj e=>by have:=S.own_lt (xJs hj e);omega)
  (Names.with_le (.inl hf)) (Names.with_at ..) (fun j hj=>Names.with_other _ _ _ hj) hB,?_⟩
 exact ⟨by rw [xfb];omega,fun b hb _ _=>xcg _ _ hb,fun b hb=>(xwr (Names.with_at ..) (fun j hj=>Names.with_other _ _ _ hj) hb).elim (fun e=>.inr (by omega)) .inl,
  fun _ h=>.inl h,fun _ h=>.inl h,fun _ h=>h,fun _ h=>.inl h,hsz,rfl,rfl⟩
theorem xvd (w:World) (G:Nat->Prop) (ν:Names) (J:Nat->Prop) (v:Value):Rel w G (xkq v) ν J v:=by
 unfold xkq;split <;> simp only [Rel]
theorem xio (w:World) (G:Nat->Prop) (ν:Names) (J:Nat->Prop):∀ (vs:List Value),xae w G (vs.map xkq) ν J vs
 | []=>xbh
 | v::vs=>xa6 (xvd w G ν J v) (xio w G ν J vs)
theorem xVl (w:World) (G:Nat->Prop) (ν:Names) (J:Nat->Prop) (v:Value):Rel w G (xJg v) ν J v:=by
 unfold xJg;split
 ·rename_i cs;simp only [Rel];exact ⟨cs.toList,rfl,xio w G ν J _⟩
 ·exact xvd w G ν J v
theorem xiu {w:World} {G:Nat->Prop} {ν:Names} {J:Nat->Prop} {ts:List AV} {a:Act} (h:xae w G ts ν J a.tmps.toList) (x:Operand):Rel w G (ev ts x) ν J (a.eval x):=by
 cases x with
 | tmp t=>
   simp only [ev,Act.eval];cases e:ts[t]? with
   | none=>
     have hl:=xb9 h;have:a.tmps.size<=t:=by rw [List.getElem?_eq_none_iff] at e;simpa [hl] using e
     simp [Rel,this]
   | some c=>
     obtain ⟨v,hv,hr⟩:=xk5 h e;have:a.tmps.getD t undef=v:=by
      rw [Array.getD_eq_getD_getElem?];have:a.tmps[t]?=some v:=by simpa using hv
      simp [this]
     rw [this];exact hr
 | const v=>exact xVl w G ν J v
 | global g=>simp only [ev,Rel]
 | func f=>
   simp only [ev,Rel,Act.eval];exact ⟨[],[],rfl,xbh,xbh⟩
theorem xmt {w:World} {G:Nat->Prop} {ν:Names} {J:Nat->Prop} {ts:List AV} {a:Act} (h:xae w G ts ν J a.tmps.toList):∀ (xs:List Operand),xae w G (xs.map (ev ts)) ν J (xs.map a.eval)
 | []=>xbh
 | x::xs=>xa6 (xiu h x) (xmt h xs)
theorem xk9 {w:World} {G:Nat->Prop} {ν:Names} {J:Nat->Prop} {ts:List AV} {a:Act} (h:xae w G ts ν J a.tmps.toList) (dst:Option Tmp) {c:AV} {v:Value} (hc:Rel w G c ν J v) :
    xae w G (put dst c ts) ν J (a.put dst v).tmps.toList:=by
 cases dst with
 | none=>exact h
 | some d=>
   simp only [put,Act.put,Array.toList_setIfInBounds];exact xys d h hc
theorem xLk {w:World} {G:Nat->Prop} {ν:Names} {J:Nat->Prop} {c:AV} {v:Value} (hc:okV c=true) (h:Rel w G c ν J v):v.oneCell'=true:=by
 cases c <;> simp only [okV,Bool.false_eq_true] at hc
 case eptr kd cs=>(simp only [Rel] at h;obtain ⟨b,o,rfl,_⟩:=h;rfl)
 case ro kd c0 s es=>(simp only [Rel] at h;rcases h with ⟨_,a,c,rfl,_⟩ | ⟨b,o,cap,rfl,_⟩ <;> rfl)
 case ptr=>simp only [Rel] at h;obtain ⟨b,_,rfl⟩:=h;rfl
 case sl=>simp only [Rel] at h;obtain ⟨b,o,c,_,rfl,_⟩:=h;rfl
 case fn=>simp only [Rel] at h;obtain ⟨as,cs,rfl,_⟩:=h;rfl
 case yl=>simp only [Rel] at h;obtain ⟨l,_,rfl⟩:=h;rfl
 case ifc=>simp only [Rel] at h;obtain ⟨l,rfl,_⟩:=h;rfl
 case mp=>simp only [Rel] at h;obtain ⟨l,_,rfl⟩:=h;rfl
 all_goals (simp only [Rel] at h;subst h;rfl)
theorem xvq {w:World} {G:Nat->Prop} {ν:Names} {J:Nat->Prop}:∀ {cs:List AV} {vs:List Value},okL cs=true->xae w G cs ν J vs->∀ v∈vs,v.oneCell'=true
 | [],_,_,h,v,hv=>by simp only [xae] at h;subst h;cases hv
 | c :: cs,_,hc,h,v,hv=>by
   simp only [okL,Bool.and_eq_true] at hc;simp only [xae] at h;obtain ⟨u,us,rfl,h1,h2⟩:=h;rcases List.mem_cons.1 hv with rfl | hv
   ·exact xLk hc.1 h1
   ·exact xvq hc.2 h2 v hv
theorem xR9 {w:World} {G:Nat->Prop} {ν:Names} {J:Nat->Prop} {c:AV} {v:Value} (hc:xAx c=true) (h:Rel w G c ν J v):Rel w G c Names.none (fun _=>False) v:=by
 cases c <;> simp only [xAx,Bool.false_eq_true] at hc
 case eptr kd cs=>cases kd <;> first | (exact Bool.noConfusion (show false=true from hc)) | (simpa only [Rel,xo2,xkw] using h)
 case ro kd c0 s es=>cases kd <;> first | (exact Bool.noConfusion (show false=true from hc)) | (simpa only [Rel,xo2,xkw] using h)
 all_goals simpa only [Rel] using h
theorem xEj {w:World} {G:Nat->Prop} {ν:Names} {J:Nat->Prop}:∀ {cs:List AV} {vs:List Value},xfa cs=true->xae w G cs ν J vs->xae w G cs Names.none (fun _=>False) vs
 | [],_,_,h=>by simpa only [xae] using h
 | c :: cs,_,hc,h=>by
   simp only [xfa,Bool.and_eq_true] at hc;simp only [xae] at h;obtain ⟨u,us,rfl,h1,h2⟩:=h;exact xa6 (xR9 hc.1 h1) (xEj hc.2 h2)
section
variable {P:Program} {t:TypeId} {T:Ty}
theorem xbj (h:xcc P t=some T):∃ i d,P.info? t=some i/\P.underlying t=some d/\T.kind=xef P t/\T.agg=xeb P t/\T.size=i.size/\T.bytes=i.bytes /\
    T.zero=i.zero.map (fun v=>v.cells.toList.map xkq)/\T.eqOk=xy0 P t:=by
 unfold xcc at h;split at h
 ·rename_i i d hi hd;cases h;exact ⟨i,d,hi,hd,rfl,rfl,rfl,rfl,rfl,rfl⟩
 ·cases h
theorem xsi {k:IntKind} (h:xef P t=.int k):P.underlying t=some (.int k):=by
 unfold xef at h;repeat (split at h <;> try (first | (cases h;assumption) | (cases h;done)))
theorem xum (h:xef P t=.bool):P.underlying t=some .bool:=by
 unfold xef at h;repeat (split at h <;> try (first | assumption | (cases h;done)))
theorem xda {e:TypeId} (h:xef P t=.slice e):P.underlying t=some (.slice e):=by
 unfold xef at h;repeat (split at h <;> try (first | (cases h;assumption) | (cases h;done)))
theorem xo4 {e:TypeId} (h:xef P t=.ptr e):P.underlying t=some (.pointer e):=by
 unfold xef at h;repeat (split at h <;> try (first | (cases h;assumption) | (cases h;done)))
theorem xw8 {fs:List (Nat×Nat×Bool)} (h:xef P t=.struct fs) :
    ∃ gs,P.underlying t=some (.struct gs)/\(fs=gs.toList.map fun f=>(f.offset,P.cellsOf f.type,xeb P f.type))/\gs.toList.all (fun f=>xmf P f.type)=true:=by
 unfold xef at h;repeat (split at h <;> try (first | (cases h;exact ⟨_,‹_›,rfl,‹_›⟩) | (cases h;done)))
theorem xl3 {n es:Nat} {ea:Bool} (h:xef P t=.array n es ea):∃ e,P.underlying t=some (.array n e)/\es=P.cellsOf e/\ea=xeb P e/\xmf P e=true:=by
 unfold xef at h;repeat (split at h <;> try (first | (cases h;exact ⟨_,‹_›,rfl,rfl,‹_›⟩) | (cases h;done)))
theorem xsj (h:xef P t=.iface):∃ ms,P.underlying t=some (.interface ms):=by
 unfold xef at h;repeat (split at h <;> try (first | (cases h;exact ⟨_,‹_›⟩) | (exact ⟨_,‹_›⟩) | (cases h;done)))
theorem xix (h:xmf P t=true):∃ i d,P.info? t=some i/\P.underlying t=some d:=by
 unfold xmf at h;simp only [Bool.and_eq_true,Option.isSome_iff_exists] at h;obtain ⟨⟨i,hi⟩,⟨d,hd⟩⟩:=h;exact ⟨i,d,hi,hd⟩
theorem xrf (h:xef P t≠.iface):∀ ms,P.underlying t≠some (.interface ms):=by
 intro ms e;apply h;simp [xef,e]
end
def xyr (P:Program) (o:Oper) (a:Act) (w:World) (v:Value) (w':World):Prop:=
 (execOp a.eval o).run P w=.ok (.value v) w'\/((execOp a.eval o).run P w=.ok .skip w'/\v=undef)
theorem xyr.wp {F:Fence} {n:Nat} {P:Program} {o:Oper} {a:Act} {w w':World} {v:Value} {K:Act->World->Prop} {Q:Exit->Act->World->Prop}
    (h:xyr P o a w v w') (hF:∀ f,F.fn f) (hK:K (a.put o.dst v) w'):o.wpIn F n P a w K Q:=by
 have hd:∀ c,o.op≠.defer c:=by
  intro c hc;unfold xyr execOp at h;simp only [hc,Sem.run_bind] at h;rcases h with h | ⟨h,_⟩ <;> (cases e:(resolve a.eval c o.type).run P w <;> simp [e,Result.andThen] at h)
 refine ⟨fun f _=>hF f,?_⟩;rw [Oper.semAt_eq _ _ _ hd];rcases h with h | ⟨h,rfl⟩
 ·rw [h];exact hK
 ·rw [h];exact hK
section
variable {P:Program} {w:World} {G:Nat->Prop} {ν:Names} {J:Nat->Prop}
theorem xcr {c:AV} {k:IntKind} {n:Int} {v:Value} (hc:c=.int k n) (h:Rel w G c ν J v):v=.int k n:=by subst hc;simpa only [Rel] using h
theorem xfr {c:AV} {b:Bool} {v:Value} (hc:c=.bool b) (h:Rel w G c ν J v):v=.bool b:=by subst hc;simpa only [Rel] using h
theorem xji {k:IntKind} {n:Int}:Rel w G (.int k n) ν J (.int k n):=by simp only [Rel]
theorem xoe {b:Bool}:Rel w G (.bool b) ν J (.bool b):=by simp only [Rel]
theorem xPg {op:BinOp} {k:IntKind} {a b:Int} {z:AV} (h:xvc op k a b=some z) (t:TypeId) (xo yo:Operand) :
    ∃ r,(do eqGuard op t xo yo (.int k a) (.int k b);binOp op t (.int k a) (.int k b):Sem Value).run P w=.ok r w/\Rel w G z ν J r:=by
 cases op <;> simp only [xvc,Option.some.injEq] at h
 case quo=>
  split at h
  ·cases h
  ·rename_i hb;cases h;exact ⟨_,by simp [eqGuard,binOp,Op.intDiv,hb],xji⟩
 case rem=>
  split at h
  ·cases h
  ·rename_i hb;cases h;exact ⟨_,by simp [eqGuard,binOp,Op.intDiv,hb],xji⟩
 case shl=>cases h
 case shr=>cases h
 case andNot=>cases h
 all_goals (subst h;first | exact ⟨_,by simp [eqGuard,binOp,Op.intArith,Op.intBits,Op.intCmp],xji⟩ | exact ⟨_,by simp [eqGuard,binOp,Op.intCmp],xoe⟩)
theorem xDf {op:BinOp} {k yk:IntKind} {a b:Int} (hb:¬ b<0) (t:TypeId) (xo yo:Operand) (ho:op=.shl\/op=.shr) :
    (do eqGuard op t xo yo (.int k a) (.int yk b);binOp op t (.int k a) (.int yk b):Sem Value).run P w =
     .ok (.int k (if op=.shl then k.wrap (a*2 ^ (min b.toNat k.bits)) else a.fdiv (2 ^ (min b.toNat k.bits)))) w:=by
 rcases ho with rfl | rfl <;> simp [eqGuard,binOp,Op.shift,hb]
end
section
variable {P:Program} {w:World} {G:Nat->Prop} {ν:Names} {J:Nat->Prop}
theorem xh8 {t:TypeId} {d:TypeDesc} (h:P.underlying t=some d):(isAgg t).run P w=.ok (xeb P t) w:=by
 unfold isAgg xeb;simp only [Sem.run_bind,run_underlying h,Result.andThen_ok,h];cases d <;> rfl
theorem xu4 (d:Nat) (vx vy:Array Value):∀ (fs:List Field) (i:Nat) (ks:List Bool) (xs ys:List AV) (r:Bool),xdd P fs i=some ks ->
    xae w G xs ν J (vx.toList.drop i)->xae w G ys ν J (vy.toList.drop i)->xbl ks xs ys=some r ->
    (Op.eqFields (d+1) vx vy fs).run P w=.ok r w
 | [],i,ks,xs,ys,r,hp,_,_,he=>by
   simp only [xdd,Option.some.injEq] at hp;subst hp;cases xs <;> cases ys <;> simp only [xbl,reduceCtorEq,Option.some.injEq] at he;subst he;simp [Op.eqFields]
 | f :: fs, i, ks,xs,ys,r,hp,hx,hy,he=>by
   simp only [xdd] at hp;split at hp
   case isFalse=>cases hp
   rename_i hc;simp only [Bool.and_eq_true,bne_iff_ne,ne_eq,beq_iff_eq] at hc;obtain ⟨hn,ho⟩:=hc;have key:∀ (q:Bool) (k:List Bool) (x y:AV) (xs' ys':List AV) (r':Bool) (dd:TypeDesc),P.underlying f.type=some dd->xeb P f.type=false->xdd P fs (i+1)=some k ->
       xs=x::xs'->ys=y::ys'->xbl k xs' ys'=some r' ->
       (∀ u v,Rel w G x ν J u->Rel w G y ν J v->(Op.equalIn (d+1) f.type u v).run P w=.ok q w) ->
       (Op.eqFields (d+1) vx vy (f::fs)).run P w=.ok (q && r') w:=by
    rintro q k x y xs' ys' r' dd hdd hagg hpk rfl rfl hek hq
    simp only [xae] at hx hy;obtain ⟨u,us,eu,hxu,hxs⟩:=hx;obtain ⟨v,vs,ev,hyv,hys⟩:=hy;have du:vx[i]?=some u:=by
     have:=congrArg (·[0]?) eu;simpa [List.getElem?_drop] using this
    have dv:vy[i]?=some v:=by
     have:=congrArg (·[0]?) ev;simpa [List.getElem?_drop] using this
    have eu':vx.toList.drop (i+1)=us:=by rw [<- List.drop_drop,eu];rfl
    have ev':vy.toList.drop (i+1)=vs:=by rw [<- List.drop_drop,ev];rfl
    have pa:∀ (vz:Array Value) (z:Value),vz[i]?=some z->(part f.type vz f.offset).run P w=.ok z w:=by
     intro vz z hz;unfold part;rw [ho];simp only [Sem.run_bind,xh8 hdd,Result.andThen_ok,hagg,Bool.false_eq_true,if_false,hz];rfl
    have ih:=xu4 d vx vy fs (i+1) k xs' ys' r' hpk (by rw [eu'];exact hxs) (by rw [ev'];exact hys) hek;simp only [Op.eqFields,hn,not_false_eq_true,ne_eq,if_true,Sem.run_bind,pa vx u du,pa vy v dv,Result.andThen_ok,hq u v hxu hyv];cases q
    ·simp
    ·simpa using ih
   split at hp
   ·rename_i kk e;cases hpk:xdd P fs (i+1) with
    | none=>rw [hpk] at hp;cases hp
    | some k =>
      rw [hpk] at hp;simp at hp;subst hp;cases xs with
      | nil=>simp [xbl] at he
      | cons x xs=>
        cases ys with
        | nil=>cases x <;> simp [xbl] at he
        | cons y ys=>
          cases x <;> cases y <;> simp only [xbl,reduceCtorEq] at he;rename_i k1 a k2 b;split at he
          ·rename_i hk;subst hk;cases hr:xbl k xs ys with
           | none=>rw [hr] at he;simp at he
           | some r'=>
             rw [hr] at he;simp at he;subst he;exact key (a == b) k _ _ xs ys r' _ e (by simp [xeb,e]) hpk rfl rfl hr (fun u v hu hv=>by
              rw [xcr rfl hu,xcr rfl hv];exact run_equalIn_int w d f.type _ kk a b e)
          ·cases he
   ·rename_i e;cases hpk:xdd P fs (i+1) with
    | none=>rw [hpk] at hp;cases hp
    | some k =>
      rw [hpk] at hp;simp at hp;subst hp;cases xs with
      | nil=>simp [xbl] at he
      | cons x xs=>
        cases ys with
        | nil=>cases x <;> simp [xbl] at he
        | cons y ys=>
          cases x <;> cases y <;> simp only [xbl,reduceCtorEq] at he;rename_i a b;cases hr:xbl k xs ys with
          | none=>rw [hr] at he;simp at he
          | some r'=>
            rw [hr] at he;simp at he;subst he;exact key (a == b) k _ _ xs ys r' _ e (by simp [xeb,e]) hpk rfl rfl hr (fun u v hu hv=>by
             rw [xfr rfl hu,xfr rfl hv];exact run_equalIn_bool' w d f.type a b e)
   ·cases hp
def xRd:AV->Bool
 | .ptr _ _ _ _=>true
 | .eptr _ _=>true
 | _=>false
theorem xjz {c:AV} {v:Value} (hc:xRd c=true) (h:Rel w G c ν J v):∃ a,v=.pointer (some a):=by
 cases c <;> simp only [xRd,Bool.false_eq_true] at hc
 case ptr=>simp only [Rel] at h;obtain ⟨b,_,rfl⟩:=h;exact ⟨_,rfl⟩
 case eptr kd cs=>(simp only [Rel] at h;obtain ⟨b,o,rfl,_⟩:=h;exact ⟨_,rfl⟩)
def xWn:AV->Bool
 | .ro _ _ _ _=>true
 | .sl _ _ _ _ _=>true
 | _=>false
theorem xpq {c:AV} {v:Value} (hc:xWn c=true) (h:Rel w G c ν J v):∃ a n m,v=.slice (some a) n m:=by
 cases c <;> simp only [xWn,Bool.false_eq_true] at hc
 case sl=>simp only [Rel] at h;obtain ⟨b,o,c,_,rfl,_⟩:=h;exact ⟨_,_,_,rfl⟩
 case ro kd c0 s es=>(simp only [Rel] at h;rcases h with ⟨_,a,c,rfl,_⟩ | ⟨b,o,cap,rfl,_⟩ <;> exact ⟨_,_,_,rfl⟩)
theorem xu3 {t e:TypeId} (hb:P.underlying t=some (.pointer e)) (p q:Option Addr) (h:p=none\/q=none) (xo yo:Operand) (op:BinOp) :
    (eqGuard op t xo yo (.pointer p) (.pointer q)).run P w=.ok () w/\(Op.equal t (.pointer p) (.pointer q)).run P w=.ok (p.isNone && q.isNone) w/\(∀ k n,Value.pointer p≠.int k n)/\(∀ a b,Value.pointer p≠.float a b)/\(∀ a b c,Value.pointer p≠.complex a b c)/\(∀ a,Value.pointer p≠.string a):=by
 have key:∀ d,(Op.equalIn (d+1) t (.pointer p) (.pointer q)).run P w=.ok (p.isNone && q.isNone) w:=by
  intro d;cases p <;> cases q <;> first | (rcases h with h | h <;> cases h;done) | (simp [Op.equalIn,run_underlying hb];done)
 exact ⟨by cases op <;> simp [eqGuard],key 9999,by simp,by simp,by simp,by simp⟩
theorem xu2 {t e:TypeId} (hb:P.underlying t=some (.slice e)) (p q:Option Addr) (n m n' m':Nat) (h:p=none\/q=none) (xo yo:Operand) (op:BinOp) :
    (eqGuard op t xo yo (.slice p n m) (.slice q n' m')).run P w=.ok () w/\(Op.equal t (.slice p n m) (.slice q n' m')).run P w=.ok (p.isNone && q.isNone) w/\(∀ k i,Value.slice p n m≠.int k i)/\(∀ a b,Value.slice p n m≠.float a b)/\(∀ a b c,Value.slice p n m≠.complex a b c)/\(∀ a,Value.slice p n m≠.string a):=by
 have key:∀ d,(Op.equalIn (d+1) t (.slice p n m) (.slice q n' m')).run P w=.ok (p.isNone && q.isNone) w:=by
  intro d;cases p <;> cases q <;> first | (rcases h with h | h <;> cases h;done) | (simp [Op.equalIn,run_underlying hb];done)
 exact ⟨by cases op <;> simp [eqGuard],key 9999,by simp,by simp,by simp,by simp⟩
theorem xnw {t:TypeId} {ms:Array (String×TypeId)} (hb:P.underlying t=some (.interface ms)) (d:Nat) (v u:Value) (i:TypeId×Value) (h:(v=.nilIface/\u=.iface i.1 i.2)\/(u=.nilIface/\v=.iface i.1 i.2)) :
    (Op.equalIn (d+1) t v u).run P w=.ok false w:=by
 rcases h with ⟨rfl,rfl⟩ | ⟨rfl,rfl⟩ <;> simp [Op.equalIn,run_underlying hb]
theorem xCo {t:TypeId} {T:Option Ty} {x y:AV} {v u:Value} {r:Bool} (hT:∀ T',T=some T'->xcc P t=some T') (h:eqA T x y=some r) (hx:Rel w G x ν J v) (hy:Rel w G y ν J u) (xo yo:Operand) (op:BinOp) :
    (eqGuard op t xo yo v u).run P w=.ok () w/\(Op.equal t v u).run P w=.ok r w/\(∀ k n,v≠.int k n)/\(∀ a b,v≠.float a b)/\(∀ a b c,v≠.complex a b c)/\(∀ a,v≠.string a):=by
 unfold eqA at h;split at h
 ·-- bools
  rename_i a b;split at h
  ·rename_i T' _ _ _ _ _;cases h;obtain ⟨i,d,_,_,hk,_⟩:=xbj (hT _ rfl);have hb:=xum hk.symm;rw [xfr rfl hx,xfr rfl hy];refine ⟨by cases op <;> simp [eqGuard],run_equalIn_bool' w 9999 t a b hb,by simp,by simp,by simp,by simp⟩
  ·cases h
 ·-- structs
  rename_i xs ys;split at h
  ·rename_i T' _ _ _ _ _ ks;obtain ⟨i,d,_,hu,_,_,_,_,_,he⟩:=xbj (hT _ rfl);simp only [Rel] at hx hy;obtain ⟨vx,rfl,hx⟩:=hx;obtain ⟨vy,rfl,hy⟩:=hy;unfold xy0 at he;simp only at he;split at he
   ·rename_i fs hfs;split at he
    ·rename_i hc;simp only [Bool.and_eq_true,Bool.not_eq_true'] at hc;have hf:P.fieldsOf t=fs:=by simp [Program.fieldsOf,hfs]
     refine ⟨run_eqGuard_agg w op t xo yo _ _ hc.2,?_,by simp,by simp,by simp,by simp⟩;have:=run_equalIn_struct (P:=P) w 9999 t vx.toArray vy.toArray (by rw [hf];exact hfs) hc.1;rw [hf] at this;show (Op.equalIn 10000 t _ _).run P w=_;rw [this];exact xu4 9998 _ _ fs.toList 0 ks xs ys r he.symm (by simpa using hx) (by simpa using hy) h
    ·cases he
   ·cases he
  ·cases h
 ·split at h <;> first | (cases h;done) | (cases h;obtain ⟨i,d,_,_,hk,_⟩:=xbj (hT _ rfl))
  ·simp only [Rel] at hx hy;subst hx;subst hy;exact xu3 (xo4 hk.symm) none none (.inl rfl) xo yo op
  ·simp only [Rel] at hx;subst hx;obtain ⟨b,rfl⟩:=xjz rfl hy;exact xu3 (xo4 hk.symm) none (some b) (.inl rfl) xo yo op
  ·simp only [Rel] at hx;subst hx;obtain ⟨b,rfl⟩:=xjz rfl hy;exact xu3 (xo4 hk.symm) none (some b) (.inl rfl) xo yo op
  ·simp only [Rel] at hy;subst hy;obtain ⟨b,rfl⟩:=xjz rfl hx;exact xu3 (xo4 hk.symm) (some b) none (.inr rfl) xo yo op
  ·simp only [Rel] at hy;subst hy;obtain ⟨b,rfl⟩:=xjz rfl hx;exact xu3 (xo4 hk.symm) (some b) none (.inr rfl) xo yo op
  ·simp only [Rel] at hx hy;subst hx;subst hy;exact xu2 (xda hk.symm) none none 0 0 0 0 (.inl rfl) xo yo op
  ·simp only [Rel] at hx;subst hx;obtain ⟨b,n,m,rfl⟩:=xpq rfl hy;exact xu2 (xda hk.symm) none (some b) 0 0 n m (.inl rfl) xo yo op
  ·simp only [Rel] at hx;subst hx;obtain ⟨b,n,m,rfl⟩:=xpq rfl hy;exact xu2 (xda hk.symm) none (some b) 0 0 n m (.inl rfl) xo yo op
  ·simp only [Rel] at hy;subst hy;obtain ⟨b,n,m,rfl⟩:=xpq rfl hx;exact xu2 (xda hk.symm) (some b) none n m 0 0 (.inr rfl) xo yo op
  ·simp only [Rel] at hy;subst hy;obtain ⟨b,n,m,rfl⟩:=xpq rfl hx;exact xu2 (xda hk.symm) (some b) none n m 0 0 (.inr rfl) xo yo op
  ·obtain ⟨ms,hb⟩:=xsj hk.symm;simp only [Rel] at hx hy;subst hx;obtain ⟨b,rfl,_⟩:=hy;exact ⟨by cases op <;> simp [eqGuard],xnw hb 9999 _ _ (_,_) (.inl ⟨rfl,rfl⟩),by simp,by simp,by simp,by simp⟩
  ·obtain ⟨ms,hb⟩:=xsj hk.symm;simp only [Rel] at hx hy;subst hy;obtain ⟨b,rfl,_⟩:=hx;exact ⟨by cases op <;> simp [eqGuard],xnw hb 9999 _ _ (_,_) (.inr ⟨rfl,rfl⟩),by simp,by simp,by simp,by simp⟩
theorem xVi {t:TypeId} {T:Option Ty} {op:BinOp} {x y z:AV} {v u:Value} (hT:∀ T',T=some T'->xcc P t=some T') (h:xma T op x y=some z) (hx:Rel w G x ν J v) (hy:Rel w G y ν J u) (xo yo:Operand) :
    ∃ r,(do eqGuard op t xo yo v u;binOp op t v u:Sem Value).run P w=.ok r w/\Rel w G z ν J r:=by
 unfold xma at h;split at h
 ·rename_i k a yk b;rw [xcr rfl hx,xcr rfl hy];split at h
  ·cases h
  ·rename_i hb;cases h;exact ⟨_,xDf hb t xo yo (.inl rfl),by simpa using xji⟩
 ·rename_i k a yk b;rw [xcr rfl hx,xcr rfl hy];split at h
  ·cases h
  ·rename_i hb;cases h;exact ⟨_,xDf hb t xo yo (.inr rfl),by simpa using xji⟩
 ·rename_i k a k' b _ _;split at h
  ·rename_i hk;subst hk;rw [xcr rfl hx,xcr rfl hy];exact xPg h t xo yo
  ·cases h
 ·cases e:eqA T x y with
  | none=>rw [e] at h;cases h
  | some r=>
    rw [e] at h;cases h;obtain ⟨h1,h2,h3,h4,h5,h6⟩:=xCo hT e hx hy xo yo .eql;refine ⟨.bool r,?_,xoe⟩;simp only [Sem.run_bind,h1,Result.andThen_ok];have:binOp .eql t v u=(do pure (.bool (<- Op.equal t v u))):=by
     cases v <;> first | rfl | exact absurd rfl (h3 _ _) | exact absurd rfl (h4 _ _) | exact absurd rfl (h5 _ _ _) | exact absurd rfl (h6 _)
    rw [this];simp only [Sem.run_bind,h2,Result.andThen_ok];rfl
 ·cases e:eqA T x y with
  | none=>rw [e] at h;cases h
  | some r=>
    rw [e] at h;cases h;obtain ⟨h1,h2,h3,h4,h5,h6⟩:=xCo hT e hx hy xo yo .neq;refine ⟨.bool !r,?_,xoe⟩;simp only [Sem.run_bind,h1,Result.andThen_ok];have:binOp .neq t v u=(do pure (.bool (!(<- Op.equal t v u)))):=by
     cases v <;> first | rfl | exact absurd rfl (h3 _ _) | exact absurd rfl (h4 _ _) | exact absurd rfl (h5 _ _ _) | exact absurd rfl (h6 _)
    rw [this];simp only [Sem.run_bind,h2,Result.andThen_ok];rfl
 ·cases h
end
section
variable {P:Program} {w:World} {G:Nat->Prop} {ν:Names} {J:Nat->Prop}
theorem xe7 {t:TypeId} {i:TypeInfo} (h:P.info? t=some i):(sizeOf t).run P w=.ok i.size w:=by
 simp [sizeOf,typeInfo,h]
theorem xfx (b o n:Nat):(⟨b,o,none⟩:Addr).add n=⟨b,o+n,none⟩:=by
 unfold Addr.add;split <;> simp_all
theorem xYa {c:AV} {n:Nat} {v:Value} (hc:xIa c=some n) (h:Rel w G c ν J v):∃ a cap,v=.slice a n cap/\n<=cap:=by
 cases c <;> simp only [xIa,reduceCtorEq,Option.some.injEq] at hc
 case nils=>subst hc;simp only [Rel] at h;exact ⟨_,_,h,Nat.le_refl _⟩
 case ro kd c0 s es=>subst hc;simp only [Rel] at h;rcases h with ⟨rfl,a,c,rfl,_⟩ | ⟨b,o,cap,rfl,h,_⟩ <;> first | exact ⟨_,_,rfl,Nat.zero_le _⟩ | exact ⟨_,_,rfl,h⟩
 case sl i s lo n cap=>subst hc;simp only [Rel] at h;obtain ⟨b,o,c,_,rfl,h,_⟩:=h;exact ⟨_,_,rfl,h⟩
theorem xjc {x:Value} {c:AV} {most r y:Nat} (h:xBh c most=some r) (hx:Rel w G c ν J x) (hy:most<=y) (code:BoundsCode) :
    (Instr.sliceBound x y code).run P w=.ok r w/\r<=most:=by
 unfold xBh at h;split at h
 ·rename_i k n;split at h
  ·rename_i hn;cases h;rw [xcr rfl hx];have h2:n<=(y:Int):=by omega
   refine ⟨?_,by omega⟩;simp only [Instr.sliceBound,Sem.run_bind];simp [asIntOf,hn.1,h2]
  ·cases h
 ·cases h
theorem xn1 {E:Operand->AV} {ρ:Operand->Value} (hE:∀ x,Rel w G (E x) ν J (ρ x)) {lo hi mx:Option Operand} {n cap m h l M:Nat} (hn:n<=cap)
    (hmh:(mx.isSome && hi.isNone)=false) (em:evO E mx M n=some m) (eh:evO E hi n m=some h) (el:evO E lo 0 h=some l) (hM:M=n) :
    ∃ m',(Instr.sliceBounds true n cap (lo.map ρ) (hi.map ρ) (mx.map ρ)).run P w=.ok (l,h,m') w/\l<=h/\h<=m/\m<=n/\m<=m'/\(mx.isSome=true->m'=m)/\(mx.isSome=false->m'=cap):=by
 subst hM;have hl:l<=h:=by
  cases lo with
  | none=>simp only [evO,Option.some.injEq] at el;omega
  | some x=>exact (xjc (P:=P) (y:=h) el (hE x) (Nat.le_refl _) .sliceB).2
 have lw:∀ (code:BoundsCode) (x:Operand),lo=some x->(Instr.sliceBound (ρ x) h code).run P w=.ok l w:=by
  rintro code x rfl
  exact (xjc el (hE x) (Nat.le_refl _) code).1
 have l0:lo=none->l=0:=by
  rintro rfl;simp only [evO,Option.some.injEq] at el;exact el.symm
 cases mx with
 | none=>
   simp only [evO,Option.some.injEq] at em;subst em;cases hi with
   | none=>
     simp only [evO,Option.some.injEq] at eh;subst eh;refine ⟨cap,?_,hl,Nat.le_refl _,Nat.le_refl _,hn,by simp,by simp⟩;cases lo with
     | none=>simp [Instr.sliceBounds,l0 rfl]
     | some z=>simp [Instr.sliceBounds,lw .sliceB z rfl]
   | some x=>
     obtain ⟨h1,h2⟩:=xjc (P:=P) (y:=cap) eh (hE x) hn .sliceAcap;refine ⟨cap,?_,hl,h2,Nat.le_refl _,hn,by simp,by simp⟩;cases lo with
     | none=>simp [Instr.sliceBounds,h1,l0 rfl]
     | some z=>simp [Instr.sliceBounds,Sem.run_bind,h1,lw .sliceB z rfl]
 | some y=>
   cases hi with
   | none=>simp at hmh
   | some x=>
     obtain ⟨h3,h4⟩:=xjc (P:=P) (y:=cap) em (hE y) hn .slice3Acap;obtain ⟨h1,h2⟩:=xjc (P:=P) (y:=m) eh (hE x) (Nat.le_refl _) .slice3B;refine ⟨m,?_,hl,h2,h4,by omega,by simp,by simp⟩;cases lo with
     | none=>simp [Instr.sliceBounds,Sem.run_bind,h3,h1,l0 rfl]
     | some z=>simp [Instr.sliceBounds,Sem.run_bind,h3,h1,lw .slice3C z rfl]
theorem xM6 {E:Operand->AV} {ρ:Operand->Value} (hE:∀ x,Rel w G (E x) ν J (ρ x)) {t e:TypeId} {i:TypeInfo} (ht:P.underlying t=some (.slice e)) (hi:P.info? e=some i)
    {x c:AV} {v:Value} {lo hi' mx:Option Operand} (h:xf1 i.size E x lo hi' mx=some c) (hx:Rel w G x ν J v) :
    ∃ r,(Instr.sliceAt t v (lo.map ρ) (hi'.map ρ) (mx.map ρ)).run P w=.ok r w/\Rel w G c ν J r:=by
 have conc:∀ (a:Option Addr) (n cap l h m:Nat),(Instr.sliceBounds true n cap (lo.map ρ) (hi'.map ρ) (mx.map ρ)).run P w=.ok (l,h,m) w ->
     (Instr.sliceAt t (.slice a n cap) (lo.map ρ) (hi'.map ρ) (mx.map ρ)).run P w=.ok (.slice (if m=l then a else a.map (·.add (l*i.size))) (h - l) (m - l)) w:=by
  intro a n cap l h m hb;simp [Instr.sliceAt,Instr.slice,Sem.run_bind,run_underlying ht,hb,xe7 hi]
 unfold xf1 at h;split at h
 ·-- nil
  simp only [Rel] at hx;subst hx;simp only [Option.bind_eq_bind,Option.bind_eq_some_iff] at h;obtain ⟨m,em,h',eh,l,el,h⟩:=h;split at h
  ·cases h
  rename_i hmh;cases h;have b0:∀ y z,evO E y 0 0=some z->z=0:=by
   intro y z hz;cases y with
   | none=>simp only [evO,Option.some.injEq] at hz;exact hz.symm
   | some y=>have:=(xjc (P:=P) (y:=0) hz (hE y) (Nat.le_refl _) .sliceB).2;omega
  have e1:=b0 _ _ em;have e2:=b0 _ _ eh;have e3:=b0 _ _ el;subst e1;subst e2;subst e3;obtain ⟨m',hb,_,_,_,_,h5,h6⟩:=xn1 (P:=P) hE (cap:=0) (Nat.le_refl _) (eq_false_of_ne_true hmh) em eh el rfl;have:m'=0:=by
   cases hs:mx.isSome
   ·exact h6 hs
   ·exact h5 hs
  subst this;exact ⟨_,conc none 0 0 _ _ _ hb,by simp [Rel]⟩
 ·-- immutable
  rename_i kd c0 s es;split at h
  ·cases h
  rename_i hmh;simp only [Option.bind_eq_bind,Option.bind_eq_some_iff] at h;obtain ⟨m,em,h',eh,l,el,h⟩:=h;split at h
  case isFalse=>cases h
  rename_i hs;cases h;simp only [Rel] at hx;rcases hx with ⟨rfl,ad,cp,rfl,hc0⟩ | ⟨b,o,cap,rfl,hcap,hc0,hloc,hmem⟩
  ·have b0:∀ (most:Nat) y z,most=0->evO E y most most=some z->z=0:=by
    rintro _ y z rfl hz
    cases y with
    | none=>simp only [evO,Option.some.injEq] at hz;exact hz.symm
    | some y=>have:=(xjc (P:=P) (y:=0) hz (hE y) (Nat.le_refl _) .sliceB).2;omega
   have e1:=b0 _ _ _ rfl em;subst e1;have e2:=b0 _ _ _ rfl eh;subst e2;have e3:=b0 _ _ _ rfl el;subst e3;obtain ⟨m',hb,_,_,_,_,h5,h6⟩:=xn1 (P:=P) hE (cap:=cp) (Nat.zero_le _) (eq_false_of_ne_true hmh) em eh el rfl;refine ⟨_,conc ad 0 cp _ _ _ hb,?_⟩;simp only [Rel];refine .inl ⟨by simp,if m'=0 then ad else ad.add (0*i.size),m' - 0,by split <;> rfl,?_⟩;cases hs:mx.isSome
   ·simp only [Bool.false_eq_true,if_false,Bool.and_eq_true];intro hh;have:=h6 hs;have:=hc0 hh.1;omega
   ·intro _;have:=h5 hs;omega
  obtain ⟨m',hb,h1,h2,h3,h4,h5,h6⟩:=xn1 (P:=P) hE hcap (eq_false_of_ne_true hmh) em eh el rfl;refine ⟨_,conc _ _ _ _ _ _ hb,?_⟩;have hlen:((es.drop l).take (h' - l)).length=h' - l:=by simp;omega
  simp only [Rel,hlen];have hcap':(if mx.isSome then decide (m=h') else c0 && decide (h'=es.length))=true->m' - l=h' - l:=by
   cases hsm:mx.isSome
   ·simp only [Bool.false_eq_true,if_false,Bool.and_eq_true,decide_eq_true_eq]
    rintro ⟨a1,a2⟩
    have:=hc0 a1;have:=h6 hsm;omega
   ·simp only [if_true,decide_eq_true_eq];intro a1;have:=h5 hsm;omega
  by_cases hz:m'=l
  ·have:(es.drop l).take (h' - l)=[]:=by rw [<- List.length_eq_zero_iff,hlen];omega
   rw [if_pos hz,this];exact .inr ⟨b,o,m' - l,rfl,by omega,hcap',fun hn=>absurd rfl hn,by simp only [xc2]⟩
  ·rw [if_neg hz];refine .inr ⟨b,o+l*i.size,m' - l,by simp [xfx],by omega,hcap',fun hn=>hloc (fun e=>hn (by simp [e])),?_⟩;rw [<- hs];exact xqd _ (xqf l hmem)
 ·-- own
  rename_i j s a n cap;split at h
  ·cases h
  rename_i hmh;simp only [Option.bind_eq_bind,Option.bind_eq_some_iff] at h;obtain ⟨m,em,h',eh,l,el,h⟩:=h;split at h
  case isFalse=>cases h
  rename_i hs;cases h;simp only [Rel] at hx;obtain ⟨b,o,c,hφ,rfl,hn,ho,hc,hroom⟩:=hx;obtain ⟨m',hb,h1,h2,h3,h4,h5,h6⟩:=xn1 (P:=P) hE hn (eq_false_of_ne_true hmh) em eh el rfl;refine ⟨_,conc _ _ _ _ _ _ hb,?_⟩;simp only [Rel];have hmc:m'<=c:=by
   cases hsm:mx.isSome
   ·have:=h6 hsm;omega
   ·have:=h5 hsm;omega
  have hcap':∀ k,(if mx.isSome then some (m - l) else cap.map (· - l))=some k->m' - l=k:=by
   intro k;cases hsm:mx.isSome
   ·simp only [Bool.false_eq_true,if_false,Option.map_eq_some_iff]
    rintro ⟨q,hq,rfl⟩
    have:=hc q hq;have:=h6 hsm;omega
   ·simp only [if_true,Option.some.injEq]
    rintro rfl;have:=h5 hsm;omega
  by_cases hz:m'=l
  ·rw [if_pos hz];refine ⟨b,o,m' - l,hφ,rfl,by omega,fun hq=>?_,hcap',by
    have h0:m' - l=0:=by omega
    rw [h0,Nat.zero_mul];omega⟩
   rcases hq with hq | hq
   ·omega
   ·have:a=0/\l=0:=by omega
    have:=ho (.inr this.1)
    simp_all
  ·rw [if_neg hz];refine ⟨b,o+l*i.size,m' - l,hφ,by simp [xfx],by omega,fun hq=>?_,hcap',by
    have:l*s+(m' - l)*s<=c*s:=by rw [<- Nat.add_mul];exact Nat.mul_le_mul_right s (by omega)
    rw [<- hs];omega⟩
   have:o=a*s:=ho (by omega);rw [this,<- hs,Nat.add_mul]
 ·cases h
theorem xEo {t:TypeId} {T:Ty} (hT:xcc P t=some T) {fs:List (Nat×Nat×Bool)} (hk:T.kind=.struct fs) {f off sz:Nat} {ag:Bool} (hf:fs[f]?=some (off,sz,ag)) :
    ∃ gs g i d,P.underlying t=some (.struct gs)/\gs[f]?=some g/\g.offset=off/\P.cellsOf g.type=sz/\xeb P g.type=ag/\P.info? g.type=some i/\P.underlying g.type=some d:=by
 obtain ⟨i,d,_,_,hk',_⟩:=xbj hT;obtain ⟨gs,hu,rfl,hv⟩:=xw8 (hk'.symm.trans hk);rw [List.getElem?_map,Option.map_eq_some_iff] at hf;obtain ⟨g,hg,he⟩:=hf;cases he;obtain ⟨i,d,hi,hd⟩:=xix (List.all_eq_true.1 hv g (List.mem_of_getElem? hg));exact ⟨gs,g,i,d,hu,by simpa using hg,rfl,rfl,rfl,hi,hd⟩
theorem xxt {t:TypeId} (h:P.cellsOf t≠0):(sizeOf t).run P w=.ok (P.cellsOf t) w:=by
 unfold Program.cellsOf at *;cases e:P.info? t with
 | none=>rw [e] at h;exact absurd rfl h
 | some i=>simp [sizeOf,typeInfo,e]
theorem xtc {t:TypeId} {T:Ty} (hT:xcc P t=some T) {fs:List (Nat×Nat×Bool)} (hk:T.kind=.struct fs) {f off sz:Nat} {ag:Bool} (hf:fs[f]?=some (off,sz,ag)) (hz:sz≠0) (b o:Nat) :
    (Instr.fieldAt t (.pointer (some ⟨b,o,none⟩)) f).run P w=.ok (.pointer (some ⟨b,o+off,none⟩)) w:=by
 obtain ⟨gs,g,_,_,hu,hg,rfl,rfl,_⟩:=xEo hT hk hf;simp [Instr.fieldAt,Sem.run_bind,run_underlying hu,hg,Instr.sureAddr,fieldPlace,xxt hz,hz,xfx]
theorem xHo {t:TypeId} (hagg:xeb P t=true) (hz:∃ i,P.info? t=some i) (vs:Array Value) (off:Nat):(part t vs off).run P w=.ok (.agg (vs.extract off (off+P.cellsOf t))) w:=by
 obtain ⟨i,hi⟩:=hz;obtain ⟨d,hd⟩:∃ d,P.underlying t=some d:=by
  unfold xeb at hagg;split at hagg <;> first | exact ⟨_,‹_›⟩ | cases hagg
 simp [part,Sem.run_bind,xh8 hd,hagg,xe7 hi,Program.cellsOf,hi]
theorem xDt {t:TypeId} {d:TypeDesc} (hd:P.underlying t=some d) (hagg:xeb P t=false) (vs:Array Value) (off:Nat) {v:Value} (hv:vs[off]?=some v):(part t vs off).run P w=.ok v w:=by
 unfold part;simp only [Sem.run_bind,xh8 hd,Result.andThen_ok,hagg,Bool.false_eq_true,if_false,hv];rfl
theorem xu9 {c:AV} {v:Value} (hc:c≠.any) (h:Rel w G c ν J v):xae w G c.cells ν J v.cells.toList:=by
 cases c
 case any=>exact absurd rfl hc
 case agg cs=>simp only [Rel] at h;obtain ⟨vs,rfl,h⟩:=h;exact h
 case tup cs=>have h':=h;simp only [Rel] at h';obtain ⟨vs,rfl,_⟩:=h';exact xa6 h xbh
 case und=>have h':=h;simp only [Rel] at h';subst h';exact xa6 h xbh
 case pan t=>have h':=h;simp only [Rel] at h';subst h';exact xa6 h xbh
 all_goals
  have ho:v.oneCell'=true:=xLk rfl h;have:v.cells=#[v]:=by cases v <;> first | rfl | (exact absurd ho (by simp [Value.oneCell']))
  rw [this];exact xa6 h xbh
theorem xts (off:Nat):∀ (vs:List Value) (k:Nat) (cells:Array Value),off+k+vs.length<=cells.size ->
    ((vs.zipIdx k).foldl (fun cs (p:Value×Nat)=>cs.setIfInBounds (off+p.2) p.1) cells).toList=cells.toList.take (off+k)++vs++cells.toList.drop (off+k+vs.length)
 | [],k,cells,_=>by simp
 | v :: vs,k,cells,h=>by
   simp only [List.zipIdx_cons,List.foldl_cons];rw [xts off vs (k+1) _ (by simp at h ⊢;omega)];rw [Array.toList_setIfInBounds];have:=list_seg_step cells.toList (off+k) v vs (by simp at h ⊢;omega);rw [show off+(k+1)=off+k+1 by omega];rw [this];rfl
theorem xp8 {E:Operand->AV} {ρ:Operand->Value} (hE:∀ x,Rel w G (E x) ν J (ρ x)) {places:Nat->Option (Nat×Nat)}:∀ (ps:List (Nat×Operand)) (cells:List AV) (vs:Array Value) (out:List AV),
    xae w G cells ν J vs.toList->xfq places cells (ps.map fun p=>(p.1,E p.2))=some out ->
    ∃ us:Array Value,Instr.fill places vs (ps.map fun p=>(p.1,ρ p.2))=some us/\xae w G out ν J us.toList
 | [],cells,vs,out,hv,h=>by
   simp only [List.map_nil,xfq,Option.some.injEq] at h;subst h;exact ⟨vs,rfl,hv⟩
 | (i, x)::ps,cells,vs,out,hv,h=>by
   have hc:=hE x;simp only [List.map_cons] at h ⊢;have hne:E x≠.any:=by intro e;rw [e] at h;simp [xfq] at h
   have h':(match places i with
    | none=>none
    | some (off,size)=>if (E x).cells.length=size/\off+size<=cells.length then xfq places (cells.take off++(E x).cells++cells.drop (off+size)) (ps.map fun p=>(p.1,E p.2)) else none)=some out:=by
    revert h hne
    generalize E x=c;intro h hne;cases c <;> first | (exact absurd rfl hne) | exact h
   clear h;simp only [Instr.fill];cases hp:places i with
   | none=>rw [hp] at h';cases h'
   | some q=>
     obtain ⟨off,size⟩:=q;rw [hp] at h';simp only at h';split at h'
     case isFalse=>cases h'
     rename_i hs;have hcr:=xu9 hne hc;have hcl:=xb9 hcr;have hvl:cells.length=vs.size:=by simpa using xb9 hv
     have hsz:(ρ x).cells.size=size:=by rw [<- hs.1,hcl];rfl
     have hle:¬ ((ρ x).cells.size≠size\/off+(ρ x).cells.size > vs.size):=by
      rw [hsz];omega
     have hle':((decide ((ρ x).cells.size≠size)) || (decide (off+(ρ x).cells.size > vs.size)))=false:=by
      simpa using hle
     simp only [hle',Bool.false_eq_true,if_false];have hsp:=xts off (ρ x).cells.toList 0 vs (by rw [Array.length_toList,hsz];omega);have hconv:((ρ x).cells.zipIdx.foldl (fun cs (p:Value×Nat)=>cs.setIfInBounds (off+p.2) p.1) vs).toList=vs.toList.take off++(ρ x).cells.toList++vs.toList.drop (off+size):=by
      rw [<- Array.foldl_toList,Array.toList_zipIdx];rw [hsp,Array.length_toList,hsz];simp
     refine xp8 hE ps _ _ out ?_ h';rw [hconv];exact xcd (xcd (xhf off hv) hcr) (xjt (off+size) hv)
end
section
variable {w:World} {G:Nat->Prop} {ν:Names} {J:Nat->Prop}
theorem xX3 {P:Program} {t:TypeId} {x:Operand} {s:_} (h:xMv P t x=some s):x=.const (.string s)/\P.underlying t=some .string:=by
 unfold xMv at h;split at h
 ·split at h
  ·rename_i hu;cases h;exact ⟨rfl,hu⟩
  ·cases h
 ·cases h
theorem xSz {c:AV} {kd:Kd} {v:Value} (h:Rel w G c Names.none (xkw J kd) v):Rel w G c ν J v:=
 xdb (fun _ h=>h) (fun _ _=>rfl) (fun _=>Nat.le_refl _) c (Names.none_le _) (fun b h=>.inl (xsl b h)) (fun _ _=>rfl) h
theorem xPl {c:List AV} {kd:Kd} {v:List Value} (h:xae w G c Names.none (xkw J kd) v):xae w G c ν J v:=
 xc1 (fun _ h=>h) (fun _ _=>rfl) (fun _=>Nat.le_refl _) c (Names.none_le _) (fun b h=>.inl (xsl b h)) (fun _ _=>rfl) h
theorem xpd {P:Program} (isMin:Bool):∀ (cs:List AV) (vs:List Value) (k:IntKind) (a:Int) (z:AV),xae w G cs ν J vs ->
    xhm (if isMin then (fun a b=>if b<a then b else a) else (fun a b=>if b > a then b else a)) k cs a=some z ->
    ∃ r,(vs.foldlM (if isMin then Builtin.min2 else Builtin.max2) (.int k a)).run P w=.ok r w/\Rel w G z ν J r
 | [],_,k,a,z,h,hz=>by
   simp only [xae] at h;subst h;simp only [xhm,Option.some.injEq] at hz;subst hz;exact ⟨_,rfl,xji⟩
 | c :: cs,_,k,a,z,h,hz=>by
   simp only [xae] at h;obtain ⟨u,us,rfl,h1,h2⟩:=h;cases c <;> simp only [xhm,reduceCtorEq] at hz;rename_i k' b;split at hz
   ·rename_i hk;subst hk;rw [xcr rfl h1];obtain ⟨r,hr,hrel⟩:=xpd isMin cs us k _ z h2 hz;refine ⟨r,?_,hrel⟩;rw [List.foldlM_cons];cases isMin <;> simpa [Builtin.min2,Builtin.max2,Sem.run_bind] using hr
   ·cases hz
theorem xw4 {P:Program}:∀ (fs:List Field),fs.all (fun f=>xmf P f.type)=true->fs.mapM (fun f=>(P.info? f.type).map fun i=>(f.offset,i.size))=some (fs.map fun f=>(f.offset,P.cellsOf f.type))
 | [],_=>rfl
 | f :: fs,h=>by
   simp only [List.all_cons,Bool.and_eq_true] at h;obtain ⟨i,d,hi,_⟩:=xix h.1;simp [List.mapM_cons,hi,xw4 fs h.2,Program.cellsOf]
theorem xJe {P:Program} {t:TypeId} {T:Ty} (hT:xcc P t=some T) {fs:List (Nat×Nat×Bool)} (hk:T.kind=.struct fs) {z:List AV} (hz:T.zero=some z) {E:Operand->AV} {ρ:Operand->Value} (hE:∀ x,Rel w G (E x) ν J (ρ x)) {ps:Array (Nat×Operand)} {cs:List AV}
    (hf:xfq (fun i=>(fs[i]?).map fun (f:Nat×Nat×Bool)=>(f.1,f.2.1)) z (ps.toList.map fun p=>(p.1,E p.2))=some cs) :
    ∃ us:Array Value,P.built t (ps.map fun (i,x)=>(i,ρ x)).toList=some us/\xae w G cs ν J us.toList:=by
 obtain ⟨i,d,hi,hd,hk',_,_,_,hz',_⟩:=xbj hT;obtain ⟨gs,hu,hfs,hv⟩:=xw8 (hk'.symm.trans hk);rw [hz] at hz';cases hz0:i.zero with
 | none=>rw [hz0] at hz';cases hz'
 | some z0=>
   rw [hz0] at hz';simp at hz';obtain ⟨us,hus,hrel⟩:=xp8 hE ps.toList z z0.cells cs (by rw [hz'];exact xio w G ν J _) hf;refine ⟨us,?_,hrel⟩;unfold Program.built;simp only [hi,hu,hz0,xw4 gs.toList hv];have e1:(fun (i:Nat)=>(fs[i]?).map fun (f:Nat×Nat×Bool)=>(f.1,f.2.1))=fun i=>((gs.toList.map fun f=>(f.offset,P.cellsOf f.type)).toArray)[i]?:=by
    funext i;subst hfs;simp [List.getElem?_map,Option.map_map,Function.comp_def]
   rw [e1] at hus;have e2:(ps.map fun (i,x)=>(i,ρ x)).toList=ps.toList.map fun p=>(p.1,ρ p.2):=by simp
   rw [e2];exact hus
theorem xKu {P:Program} {t:TypeId} {T:Ty} (hT:xcc P t=some T) {n es:Nat} {ea:Bool} (hk:T.kind=.array n es ea) {z:List AV} (hz:T.zero=some z) {E:Operand->AV} {ρ:Operand->Value} (hE:∀ x,Rel w G (E x) ν J (ρ x)) {ps:Array (Nat×Operand)} {cs:List AV}
    (hf:xfq (fun i=>some (i*es,es)) z (ps.toList.map fun p=>(p.1,E p.2))=some cs) :
    ∃ us:Array Value,P.built t (ps.map fun (i,x)=>(i,ρ x)).toList=some us/\xae w G cs ν J us.toList:=by
 obtain ⟨i,d,hi,hd,hk',_,_,_,hz',_⟩:=xbj hT;obtain ⟨e,hu,rfl,_,hv⟩:=xl3 (hk'.symm.trans hk);obtain ⟨ie,de,hie,hde⟩:=xix hv;rw [hz] at hz';cases hz0:i.zero with
 | none=>rw [hz0] at hz';cases hz'
 | some z0=>
   rw [hz0] at hz';simp at hz';obtain ⟨us,hus,hrel⟩:=xp8 hE ps.toList z z0.cells cs (by rw [hz'];exact xio w G ν J _) hf;refine ⟨us,?_,hrel⟩;unfold Program.built;simp only [hi,hu,hz0,hie];have e2:(ps.map fun (i,x)=>(i,ρ x)).toList=ps.toList.map fun p=>(p.1,ρ p.2):=by simp
   rw [e2];have:P.cellsOf e=ie.size:=by simp [Program.cellsOf,hie]
   rw [this] at hus;exact hus
theorem xy2 {α:Type} {xs:Array α} {x:α} (h:xs.toList=[x]):xs=#[x]:=by
 cases xs;simp at h;simp [h]
theorem xNp {C:Cfg} (hC:∀ t T,C.ty t=some T->xcc C.P t=some T) {E:Operand->AV} {ρ:Operand->Value} (hE:∀ x,Rel w G (E x) ν J (ρ x)) {b:Builtin} {args:Array Operand} {ts:Array TypeId} {c:AV}
    (h:xaw C E b args.toList ts.toList=some (.pure c)) (type:TypeId) (consts:Array Bool) :
    ∃ v,(builtin b ts type consts (args.map ρ)).run C.P w=.ok (.value v) w/\Rel w G c ν J v:=by
 unfold xaw at h;split at h
 ·-- len
  rename_i x t ex et;rw [xy2 ex,xy2 et];cases hT:C.ty t with
  | none=>simp [hT] at h
  | some T=>
    obtain ⟨i,d,hi,hd,hk,-⟩:=xbj (hC _ _ hT);obtain ⟨kind,agg,size,bytes,zero,eqOk⟩:=T;simp only [hT] at h;cases kind <;> try (simp at h;done)
    case slice e=>
     simp only [Option.map_eq_some_iff,MA.pure.injEq] at h;obtain ⟨n,hn,rfl⟩:=h;obtain ⟨a,cap,hv,_⟩:=xYa hn (hE x);refine ⟨.int .i64 n,?_,xji⟩;simp [builtin,Builtin.len_,Sem.run_bind,run_underlying (xda hk.symm),hv,goInt]
    case array n es ea=>
     simp only [Option.some.injEq,MA.pure.injEq] at h;subst h;obtain ⟨e,hu,_⟩:=xl3 hk.symm;refine ⟨.int .i64 n,?_,xji⟩;simp [builtin,Builtin.len_,Sem.run_bind,run_underlying hu,goInt]
    case map k e=>
     have hm:C.P.underlying t=some (.map k e):=by
      have:=hk.symm;unfold xef at this;repeat (split at this <;> try (first | (cases this;assumption) | (cases this;done)))
     dsimp only at h;split at h
     ·rename_i ev;simp only [Option.some.injEq,MA.pure.injEq] at h;subst h;have hr:=hE x;rw [ev] at hr;simp only [Rel] at hr;refine ⟨.int .i64 0,?_,xji⟩;simp [builtin,Builtin.len_,Sem.run_bind,run_underlying hm,hr,goInt]
     ·simp at h
     ·cases h
 ·-- min
  rename_i _ x r ex;split at h
  ·rename_i k n hx;simp only [Option.map_eq_some_iff,MA.pure.injEq] at h;obtain ⟨z,hz,rfl⟩:=h;have hr:xae w G (r.map E) ν J (r.map ρ):=by
    clear ex hz;induction r with
    | nil=>exact xbh
    | cons y r ih=>exact xa6 (hE y) ih
   obtain ⟨v,hv,hrel⟩:=xpd (P:=C.P) true (r.map E) (r.map ρ) k n z hr (by simpa using hz);refine ⟨v,?_,hrel⟩;simp only [if_true] at hv;simp [builtin,Builtin.min_,ex,xcr hx (hE x),hv]
  ·cases h
 ·-- max
  rename_i _ x r ex;split at h
  ·rename_i k n hx;simp only [Option.map_eq_some_iff,MA.pure.injEq] at h;obtain ⟨z,hz,rfl⟩:=h;have hr:xae w G (r.map E) ν J (r.map ρ):=by
    clear ex hz;induction r with
    | nil=>exact xbh
    | cons y r ih=>exact xa6 (hE y) ih
   obtain ⟨v,hv,hrel⟩:=xpd (P:=C.P) false (r.map E) (r.map ρ) k n z hr (by simpa using hz);refine ⟨v,?_,hrel⟩;simp only [Bool.false_eq_true,if_false] at hv;simp [builtin,Builtin.max_,ex,xcr hx (hE x),hv]
  ·cases h
 ·-- append
  repeat (split at h <;> try (simp at h;done))
 ·-- copy
  repeat (split at h <;> try (simp at h;done))
 ·-- delete
  repeat (split at h <;> try (simp at h;done))
 ·cases h
theorem xw3 {P:Program} {a:Act} {o:Oper} {cl:Call} (hop:o.op=.call cl) {b:Builtin} (hb:cl.callee=.builtin b) :
    ∃ consts,(execOp a.eval o).run P w=(builtin b cl.argTypes o.type consts (cl.args.map a.eval)).run P w:=by
 unfold execOp;simp only [hop,resolve,hb,Sem.run_bind,Sem.run_pure,Result.andThen_ok,invoke];exact ⟨_,rfl⟩
theorem xn5 {s:Nat}:∀ {n:Nat} {cs:List AV},(xes s n cs).length=n
 | 0,_=>rfl
 | n+1,cs=>by rw [xes,List.length_cons,xn5]
theorem xxd {w:World} {G:Nat->Prop} {ν:Names} {J:Nat->Prop} {b s:Nat}:∀ (m:Nat) {cs:List AV} {o:Nat},m*s<=cs.length->xcf w G cs ν J b o->xc2 w G (xes s m cs) ν J b o s
 | 0,_,_,_,_=>by simp only [xes,xc2]
 | m + 1,cs,o,hl,h=>by
   rw [Nat.succ_mul] at hl;simp only [xes,xc2];refine ⟨by rw [List.length_take];omega,xnn s h,xxd m (by rw [List.length_drop];omega) (xia s h)⟩
theorem xRe {C:Cfg} (hC:∀ t T,C.ty t=some T->xcc C.P t=some T) {ts:List AV} {a:Act} (hts:xae w G ts ν J a.tmps.toList) {o:Oper} {c:AV} (h:xi2 C (ev ts) o=some (.pure c)) :
    ∃ v,xyr C.P o a w v w/\Rel w G c ν J v:=by
 have hE:∀ x,Rel w G (ev ts x) ν J (a.eval x):=xiu hts;have fin:∀ {s:Sem Value} {v:Value},(execOp a.eval o=do pure (.value (<- s)))->s.run C.P w=.ok v w->Rel w G c ν J v->∃ v,xyr C.P o a w v w/\Rel w G c ν J v:=by
  intro s v e hs hr;exact ⟨v,.inl (by rw [e];simp [hs]),hr⟩
 unfold xi2 at h;cases hop:o.op with
 | move x=>
   simp only [hop,Option.some.injEq,MA.pure.injEq] at h;subst h;exact ⟨_,.inl (by unfold execOp;simp only [hop];rfl),hE x⟩
 | assign x=>
   simp only [hop,Option.some.injEq,MA.pure.injEq] at h;subst h;exact ⟨_,.inl (by unfold execOp;simp only [hop];rfl),hE x⟩
 | pick x y z=>
   simp only [hop] at h;split at h
   ·rename_i t ht;simp only [Option.some.injEq,MA.pure.injEq] at h;have hb:=xfr ht (hE x);refine ⟨if t then a.eval y else a.eval z,.inl ?_,?_⟩
    ·unfold execOp;simp only [hop,hb];cases t <;> simp [asBool]
    ·subst h;cases t <;> simp [hE]
   ·cases h
 | build t ps=>
   simp only [hop] at h;cases hT:C.ty t with
   | none=>simp [hT] at h
   | some T=>
     have hT':=hC _ _ hT;obtain ⟨kind,agg,size,bytes,zero,eqOk⟩:=T;simp only [hT] at h;cases zero with
     | none=>cases kind <;> simp at h
     | some z=>
       cases kind <;> try (simp at h;done)
       case struct fs=>
        simp only [Option.map_eq_some_iff,MA.pure.injEq] at h;obtain ⟨cs,hf,rfl⟩:=h;obtain ⟨us,hus,hrel⟩:=xJe hT' rfl rfl hE hf;refine fin (s:=Instr.build t (ps.map fun (i,x)=>(i,a.eval x))) (v:=.agg us) (by unfold execOp;simp only [hop]) (run_build w t _ us hus) ?_;simp only [Rel];exact ⟨us.toList,rfl,hrel⟩
       case array n es ea=>
        simp only [Option.map_eq_some_iff,MA.pure.injEq] at h;obtain ⟨cs,hf,rfl⟩:=h;obtain ⟨us,hus,hrel⟩:=xKu hT' rfl rfl hE hf;refine fin (s:=Instr.build t (ps.map fun (i,x)=>(i,a.eval x))) (v:=.agg us) (by unfold execOp;simp only [hop]) (run_build w t _ us hus) ?_;simp only [Rel];exact ⟨us.toList,rfl,hrel⟩
 | nilCheck x=>
   simp only [hop] at h;split at h
   ·rename_i i s k j hx;simp only [Option.some.injEq,MA.pure.injEq] at h;subst h;have hr:=hE x;rw [hx] at hr;obtain ⟨b,hv⟩:=xjz rfl hr;refine ⟨a.eval x,.inl ?_,by rw [<- hx];exact hE x⟩;unfold execOp;simp only [hop,hv];rfl
   ·rename_i kd cs hx;simp only [Option.some.injEq,MA.pure.injEq] at h;subst h;have hr:=hE x;rw [hx] at hr;obtain ⟨b,hv⟩:=xjz rfl hr;refine ⟨a.eval x,.inl ?_,by rw [<- hx];exact hE x⟩;unfold execOp;simp only [hop,hv];rfl
   ·rename_i f p q hx;simp only [Option.some.injEq,MA.pure.injEq] at h;subst h;have hr:=hE x;rw [hx] at hr;have hr':=hr;simp only [Rel] at hr';obtain ⟨as,cs,hv,_⟩:=hr';refine ⟨a.eval x,.inl ?_,hr⟩;unfold execOp;simp only [hop,hv];rfl
   ·cases h
 | binOp op t x y yt=>
   simp only [hop] at h;split at h
   ·rename_i hnl;obtain ⟨T,hT,hTk,hx,-,rfl⟩:=xw5 hnl;obtain ⟨i,d,_,_,hk,_⟩:=xbj (hC _ _ hT);obtain ⟨ms,hb⟩:=xsj (hk.symm.trans hTk);have hxv:=hE x;rw [hx] at hxv;simp only [Rel] at hxv;have hcv:a.eval (.const .nilIface)=.nilIface:=rfl;have key:∀ d,(Op.equalIn (d+1) t .nilIface .nilIface).run C.P w=.ok true w:=fun d=>by simp [Op.equalIn,run_underlying hb]
    have key':(Op.equal t .nilIface .nilIface).run C.P w=.ok true w:=key 9999;cases op <;> simp only [reduceCtorEq,Option.some.injEq,MA.pure.injEq] at h
    case eql=>
     subst h;refine fin (s:=do eqGuard .eql t x (.const .nilIface) (a.eval x) (a.eval (.const .nilIface));binOp .eql t (a.eval x) (a.eval (.const .nilIface))) (by unfold execOp;simp only [hop]) (v:=.bool true) ?_ xoe;rw [hxv,hcv];have:binOp .eql t .nilIface .nilIface=(do pure (.bool (<- Op.equal t .nilIface .nilIface))):=rfl;rw [this];simp [eqGuard,key']
    case neq=>
     subst h;refine fin (s:=do eqGuard .neq t x (.const .nilIface) (a.eval x) (a.eval (.const .nilIface));binOp .neq t (a.eval x) (a.eval (.const .nilIface))) (by unfold execOp;simp only [hop]) (v:=.bool false) ?_ xoe;rw [hxv,hcv];have:binOp .neq t .nilIface .nilIface=(do pure (.bool (!(<- Op.equal t .nilIface .nilIface)))):=rfl;rw [this];simp [eqGuard,key']
   simp only [Option.map_eq_some_iff,MA.pure.injEq] at h;obtain ⟨z,hz,rfl⟩:=h;obtain ⟨r,hr,hrel⟩:=xVi (P:=C.P) (fun T' e=>hC t T' e) hz (hE x) (hE y) x y;exact fin (s:=do eqGuard op t x y (a.eval x) (a.eval y);binOp op t (a.eval x) (a.eval y)) (by unfold execOp;simp only [hop]) hr hrel
 | unOp op t x=>
   simp only [hop,Option.map_eq_some_iff,MA.pure.injEq] at h;obtain ⟨z,hz,rfl⟩:=h;unfold unA at hz;split at hz
   ·rename_i k n hx;simp only [Option.some.injEq] at hz;subst hz;have:=xcr hx (hE x);exact fin (s:=Op.unary .neg (a.eval x)) (by unfold execOp;simp only [hop]) (by rw [this];simp [Op.unary,Op.intArith]) xji
   ·rename_i b hx;simp only [Option.some.injEq] at hz;subst hz;have:=xfr hx (hE x);exact fin (s:=Op.unary .not (a.eval x)) (by unfold execOp;simp only [hop]) (by rw [this];simp [Op.unary]) xoe
   ·cases hz
 | convert sT dT x=>
   simp only [hop] at h;cases hS:C.ty sT with
   | none=>simp [hS] at h
   | some S=>
     cases hD:C.ty dT with
     | none=>simp [hS,hD] at h
     | some D=>
       obtain ⟨is,ds,_,hsu,hsk,-⟩:=xbj (hC _ _ hS);obtain ⟨id,dd,_,hdu,hdk,-⟩:=xbj (hC _ _ hD);obtain ⟨kindS,_,_,_,_,_⟩:=S;obtain ⟨kindD,_,_,_,_,_⟩:=D;cases hx:ev ts x <;> simp only [hS,hD,hx] at h
       all_goals (cases kindS <;> try (simp at h;done))
       all_goals (cases kindD <;> try (simp at h;done))
       rename_i k' n k1 k;simp only [Option.some.injEq,MA.pure.injEq] at h;subst h;have hv:=xcr hx (hE x);refine fin (s:=convert sT dT (a.eval x)) (by unfold execOp;simp only [hop]) ?_ xji;rw [hv];simp [convert,Sem.run_bind,run_underlying (xsi hsk.symm),run_underlying (xsi hdk.symm),Conv.intToInt]
 | makeInterface t x=>
   simp only [hop] at h;cases hT:C.ty t with
   | none=>simp [hT] at h
   | some T=>
     obtain ⟨i,d,_,hu,hk,-⟩:=xbj (hC _ _ hT);obtain ⟨kind,_,_,_,_,_⟩:=T;have hni:kind≠.iface:=by rintro rfl;simp [hT] at h
     have h':some (MA.pure (.ifc t (ev ts x)))=some (.pure c):=by
      simp only [hT] at h;cases kind <;> first | exact h | exact absurd rfl hni
     simp only [Option.some.injEq,MA.pure.injEq] at h';subst h';refine fin (s:=Instr.makeInterface t (a.eval x)) (v:=.iface t (a.eval x)) (by unfold execOp;simp only [hop]) (run_makeInterface w t _ ?_) (by simp only [Rel];exact ⟨_,rfl,hE x⟩);have hni':=xrf (t:=t) (P:=C.P) (by rw [<- hk];exact hni);unfold Program.concrete;rw [hu];cases d <;> first | rfl | exact absurd hu (hni' _)
 | makeFunc f p q=>
   simp only [hop,Option.some.injEq,MA.pure.injEq] at h;subst h;refine fin (s:=Instr.makeFunc f (p.map a.eval) (q.map a.eval)) (v:=.func f (p.map a.eval) (q.map a.eval)) (by unfold execOp;simp only [hop]) rfl ?_;simp only [Rel];refine ⟨p.toList.map a.eval,q.toList.map a.eval,?_,xmt hts _,xmt hts _⟩;rw [show (p.toList.map a.eval).toArray=p.map a.eval from Array.ext' (by simp),show (q.toList.map a.eval).toArray=q.map a.eval from Array.ext' (by simp)]
 | slice t x lo hi mx=>
   simp only [hop] at h;cases hT:C.ty t with
   | none=>simp [hT] at h
   | some T=>
     obtain ⟨i,d,_,hu,hk,-⟩:=xbj (hC _ _ hT);obtain ⟨kind,_,_,_,_,_⟩:=T;simp only [hT] at h;cases kind <;> try (simp at h;done)
     ·rename_i e;dsimp only at h;cases he:C.ty e with
      | none=>simp [he] at h
      | some te=>
        simp only [he,Option.map_eq_some_iff,MA.pure.injEq] at h;obtain ⟨z,hz,rfl⟩:=h;obtain ⟨ie,de,hie,_,_,_,hsz,-⟩:=xbj (hC _ _ he);rw [hsz] at hz;obtain ⟨r,hr,hrel⟩:=xM6 (P:=C.P) hE (xda hk.symm) hie hz (hE x);exact fin (by unfold execOp;simp only [hop]) hr hrel
     ·rename_i m es ea;dsimp only at h;split at h
      ·rename_i kd cs hx;split at h
       ·rename_i hn;simp only [Option.some.injEq,MA.pure.injEq] at h;subst h;obtain ⟨e,hue,rfl,_,hve⟩:=xl3 hk.symm;obtain ⟨ie,de,hie,_⟩:=xix hve;have hr:=hE x;rw [hx] at hr;simp only [Rel] at hr;obtain ⟨b,o',hv,hl,hm⟩:=hr;refine fin (s:=Instr.sliceAt t (a.eval x) none none none) (v:=.slice (some ⟨b,o',none⟩) m m) (by unfold execOp;simp only [hop];rfl) ?_ ?_
        ·rw [hv];simp [Instr.sliceAt,Sem.run_bind,run_underlying hue,Instr.sureAddr,Instr.sliceBounds,xe7 hie,xfx]
        ·simp only [Rel];exact .inr ⟨b,o',m,by rw [xn5],by rw [xn5];exact Nat.le_refl _,fun _=>by rw [xn5],fun _=>hl,xxd m hn.2 hm⟩
       ·cases h
      ·cases h
 | fieldAddr t x f=>
   simp only [hop] at h;cases hT:C.ty t with
   | none=>simp [hT] at h
   | some T=>
     have hT':=hC _ _ hT;obtain ⟨kind,_,_,_,_,_⟩:=T;simp only [hT] at h;cases kind <;> try (simp at h;done)
     rename_i fs;dsimp only at h;cases hf:fs[f]? with
     | none=>simp [hf] at h
     | some g=>
       obtain ⟨off,sz,ag⟩:=g;simp only [hf] at h;split at h
       ·cases h
       ·rename_i hz;have hr:=hE x;cases hx:ev ts x <;> simp only [hx,reduceCtorEq,Option.some.injEq,MA.pure.injEq] at h
        ·rename_i i s k j;subst h;rw [hx] at hr;simp only [Rel] at hr;obtain ⟨b,hb,hv⟩:=hr;refine fin (s:=Instr.fieldAt t (a.eval x) f) (by unfold execOp;simp only [hop]) (by rw [hv];exact xtc hT' rfl hf hz _ _) ?_;simp only [Rel];exact ⟨b,hb,by rw [Nat.add_assoc]⟩
        ·rename_i kd cs;subst h;rw [hx] at hr;simp only [Rel] at hr;obtain ⟨b,o,hv,hl,hm⟩:=hr;refine fin (s:=Instr.fieldAt t (a.eval x) f) (by unfold execOp;simp only [hop]) (by rw [hv];exact xtc hT' rfl hf hz _ _) ?_;simp only [Rel];exact ⟨b,_,rfl,hl,xia off hm⟩
 | field t x f=>
   simp only [hop] at h;cases hT:C.ty t with
   | none=>simp [hT] at h
   | some T =>
     have hT':=hC _ _ hT;obtain ⟨kind,_,_,_,_,_⟩:=T;have hr:=hE x;cases hx:ev ts x <;> simp only [hT,hx] at h
     all_goals (cases kind <;> try (simp at h;done))
     rename_i cs fs;dsimp only at h;rw [hx] at hr;simp only [Rel] at hr;obtain ⟨vs,hv,hr⟩:=hr;cases hf:fs[f]? with
     | none=>simp [hf] at h
     | some g=>
       obtain ⟨off,sz,ag⟩:=g;obtain ⟨gs,g,ig,dg,hu,hg,rfl,rfl,hag,hig,hdg⟩:=xEo hT' rfl hf;simp only [hf] at h;have run:∀ v,(part g.type vs.toArray g.offset).run C.P w=.ok v w->(Instr.field t (a.eval x) f).run C.P w=.ok v w:=by
        intro v e;rw [hv];simp [Instr.field,Sem.run_bind,run_underlying hu,hg,asAgg,e]
       cases ag with
       | true=>
         simp only at h;split at h
         ·rename_i hle;simp only [Option.some.injEq,MA.pure.injEq] at h;subst h;refine fin (s:=Instr.field t (a.eval x) f) (by unfold execOp;simp only [hop]) (run _ (xHo hag ⟨_,hig⟩ _ _)) ?_;simp only [Rel];refine ⟨(vs.drop g.offset).take (C.P.cellsOf g.type),?_,xhf _ (xjt _ hr)⟩;congr 1;apply Array.ext';simp [List.extract_eq_take_drop]
         ·cases h
       | false=>
         simp only [Option.map_eq_some_iff,MA.pure.injEq] at h;obtain ⟨z,hz,rfl⟩:=h;obtain ⟨v,hv',hrel⟩:=xk5 hr hz;exact fin (s:=Instr.field t (a.eval x) f) (by unfold execOp;simp only [hop]) (run _ (xDt hdg hag _ _ (by simpa using hv'))) hrel
 | indexAddr t x ix=>
   simp only [hop] at h;cases hT:C.ty t with
   | none=>simp [hT] at h
   | some T =>
     obtain ⟨i,d,_,hu,hk,-⟩:=xbj (hC _ _ hT);obtain ⟨kind,_,_,_,_,_⟩:=T;have hri:=hE ix;cases hix:ev ts ix <;> simp only [hT,hix] at h
     all_goals (cases kind <;> try (simp at h;done))
     ·rename_i kk n e;rw [hix] at hri;have hiv:=xcr rfl hri;dsimp only at h;cases he:C.ty e with
      | none=>simp [he] at h
      | some te=>
        obtain ⟨ie,de,hie,_,_,_,hsz,-⟩:=xbj (hC _ _ he);have hr:=hE x;cases hx:ev ts x <;> simp only [he,hx,reduceCtorEq] at h
        ·rename_i kd c0 s es;split at h
         ·rename_i hn;split at h
          ·rename_i cs hcs;simp only [Option.some.injEq,MA.pure.injEq] at h;subst h;rw [hx] at hr;simp only [Rel] at hr;obtain ⟨b,o',cap,hv,hcap,_,hl,hm⟩:=hr.resolve_left (by rintro ⟨rfl,_⟩;simp at hcs);obtain ⟨_,hm2⟩:=xk6 hm hcs;have hlt:n.toNat<es.length:=(List.getElem?_eq_some_iff.1 hcs).1;refine fin (s:=Instr.indexAt t (a.eval x) (a.eval ix)) (v:=.pointer (some ⟨b,o'+n.toNat*s,none⟩)) (by unfold execOp;simp only [hop]) ?_ ?_
           ·have h2:n<(es.length:Int):=by omega
            rw [hv,hiv];simp [Instr.indexAt,Sem.run_bind,asIntOf,run_underlying (xda hk.symm),hn.1,h2,xe7 hie,xfx,<- hsz,hn.2]
           ·simp only [Rel];exact ⟨b,_,rfl,hl (by rintro rfl;simp at hlt),hm2⟩
          ·cases h
         ·cases h
        ·rename_i i' s lo m cap;split at h
         ·rename_i hn;simp only [Option.some.injEq,MA.pure.injEq] at h;subst h;rw [hx] at hr;simp only [Rel] at hr;obtain ⟨b,o',c',hφ,hv,hcap,ho,_⟩:=hr;refine fin (s:=Instr.indexAt t (a.eval x) (a.eval ix)) (v:=.pointer (some ⟨b,o'+n.toNat*s,none⟩)) (by unfold execOp;simp only [hop]) ?_ ?_
          ·rw [hv,hiv];simp [Instr.indexAt,Sem.run_bind,asIntOf,run_underlying (xda hk.symm),hn.1,hn.2.1,xe7 hie,xfx,<- hsz,hn.2.2]
          ·simp only [Rel];refine ⟨b,hφ,?_⟩;rw [ho (by omega),Nat.add_mul];rfl
         ·cases h
     ·rename_i kk n m es ea;rw [hix] at hri;have hiv:=xcr rfl hri;obtain ⟨e,hue,rfl,_,hve⟩:=xl3 hk.symm;obtain ⟨ie,de,hie,_⟩:=xix hve;have hsz:C.P.cellsOf e=ie.size:=by simp [Program.cellsOf,hie]
      dsimp only at h;split at h
      ·rename_i hn;have hr:=hE x;have run:∀ b o',a.eval x=.pointer (some ⟨b,o',none⟩)->(Instr.indexAt t (a.eval x) (a.eval ix)).run C.P w=.ok (.pointer (some ⟨b,o'+n.toNat*C.P.cellsOf e,none⟩)) w:=by
        intro b o' hv;rw [hv,hiv];simp [Instr.indexAt,Sem.run_bind,asIntOf,run_underlying hue,hn.1,hn.2,xe7 hie,xfx,hsz,Instr.sureAddr]
       cases hx:ev ts x <;> simp only [hx,reduceCtorEq,Option.some.injEq,MA.pure.injEq] at h
       ·subst h;rw [hx] at hr;simp only [Rel] at hr;obtain ⟨b,hφ,hv⟩:=hr;exact fin (s:=Instr.indexAt t (a.eval x) (a.eval ix)) (by unfold execOp;simp only [hop]) (run _ _ hv) (by simp only [Rel];exact ⟨b,hφ,by rw [Nat.add_assoc]⟩)
       ·subst h;rw [hx] at hr;simp only [Rel] at hr;obtain ⟨b,o',hv,hl,hm⟩:=hr;exact fin (s:=Instr.indexAt t (a.eval x) (a.eval ix)) (by unfold execOp;simp only [hop]) (run _ _ hv) (by simp only [Rel];exact ⟨b,_,rfl,hl,xia _ hm⟩)
      ·cases h
 | index t x ix=>
   simp only [hop] at h;split at h
   ·rename_i s hsb;have hri:=hE ix;cases hix:ev ts ix <;> simp only [hix,reduceCtorEq] at h;rename_i kk n;rw [hix] at hri;have hiv:=xcr rfl hri;split at h
    case isFalse=>cases h
    rename_i hn;rw [Option.map_eq_some_iff] at h;obtain ⟨b,hb,h⟩:=h;simp only [MA.pure.injEq] at h;subst h;obtain ⟨rfl,hu⟩:=xX3 hsb;refine fin (s:=Instr.index t (a.eval (.const (.string s))) (a.eval ix)) (v:=.int .u8 (b.toNat:Nat)) (by unfold execOp;simp only [hop]) ?_ ?_
    ·rw [hiv,show a.eval (.const (.string s))=.string s from rfl];simp [Instr.index,Sem.run_bind,asIntOf,run_underlying hu,hn,hb]
    ·simp only [Rel]
   rename_i hsb;cases hT:C.ty t with
   | none=>simp [hT] at h
   | some T=>
     obtain ⟨i,d,_,hu,hk,-⟩:=xbj (hC _ _ hT);obtain ⟨kind,_,_,_,_,_⟩:=T;have hr:=hE x;have hri:=hE ix;cases hx:ev ts x <;> simp only [hT,hx] at h
     all_goals (cases kind <;> try (simp at h;done))
     rename_i cs m es ea;cases hix:ev ts ix <;> simp only [hix,reduceCtorEq] at h;rename_i kk n;rw [hix] at hri;rw [hx] at hr;have hiv:=xcr rfl hri;simp only [Rel] at hr;obtain ⟨vs,hv,hr⟩:=hr;obtain ⟨e,hue,rfl,rfl,hve⟩:=xl3 hk.symm;obtain ⟨ie,de,hie,hde⟩:=xix hve;have hsz:C.P.cellsOf e=ie.size:=by simp [Program.cellsOf,hie]
     split at h
     ·rename_i hn;have run:∀ v,(part e vs.toArray (n.toNat*C.P.cellsOf e)).run C.P w=.ok v w->(Instr.index t (a.eval x) (a.eval ix)).run C.P w=.ok v w:=by
       intro v hp;rw [hv,hiv];rw [hsz] at hp;simp [Instr.index,Sem.run_bind,asIntOf,run_underlying hue,hn.1,hn.2,xe7 hie,hp]
      cases hag:xeb C.P e with
      | true=>
        simp only [hag,if_true] at h;split at h
        ·simp only [Option.some.injEq,MA.pure.injEq] at h;subst h;refine fin (s:=Instr.index t (a.eval x) (a.eval ix)) (by unfold execOp;simp only [hop]) (run _ (xHo hag ⟨_,hie⟩ _ _)) ?_;simp only [Rel];refine ⟨(vs.drop (n.toNat*C.P.cellsOf e)).take (C.P.cellsOf e),?_,xhf _ (xjt _ hr)⟩;congr 1;apply Array.ext';simp [List.extract_eq_take_drop]
        ·cases h
      | false=>
        simp only [hag,Bool.false_eq_true,if_false,Option.map_eq_some_iff,MA.pure.injEq] at h;obtain ⟨z,hz,rfl⟩:=h;obtain ⟨v,hv',hrel⟩:=xk5 hr hz;exact fin (s:=Instr.index t (a.eval x) (a.eval ix)) (by unfold execOp;simp only [hop]) (run _ (xDt hde hag _ _ (by simpa using hv'))) hrel
     ·cases h
 | typeAssert x xt t ok=>
   simp only [hop] at h;have hr:=hE x;cases hT:C.ty t with
   | none=>simp [hT] at h
   | some T=>
     obtain ⟨i,d,_,hu,hk,-⟩:=xbj (hC _ _ hT);obtain ⟨kind,_,_,_,_,_⟩:=T;have hni:kind≠.iface:=by rintro rfl;simp [hT] at h
     cases hx:ev ts x <;> (first | (exfalso;revert h;rw [hT,hx];cases kind <;> simp;done) | skip);rename_i t' v;have h':(if t'=t then some (MA.pure (if ok then .tup [v,.bool true] else v)) else none)=some (.pure c):=by
      simp only [hT,hx] at h;cases kind <;> first | exact h | exact absurd rfl hni
     split at h'
     case isFalse=>cases h'
     rename_i e;subst e;simp only [Option.some.injEq,MA.pure.injEq] at h';subst h';rw [hx] at hr;simp only [Rel] at hr;obtain ⟨u,hv,hr⟩:=hr;have hni':=xrf (t:=t') (P:=C.P) (by rw [<- hk];exact hni);refine fin (s:=Instr.typeAssert (a.eval x) xt t' ok) (v:=if ok then .tuple #[u,.bool true] else u) (by unfold execOp;simp only [hop]) ?_ ?_
     ·rw [hv];cases d <;> first
       | (exfalso;simp [hu] at hni';done)
       | (cases ok <;> simp [Instr.typeAssert,Sem.run_bind,run_underlying hu])
     ·cases ok with
      | true=>
        simp only [if_true,Rel];exact ⟨[u,.bool true],rfl,xa6 hr (xa6 (by simp only [Rel]) xbh)⟩
      | false=>simpa using hr
 | extract x i=>
   simp only [hop] at h;have hr:=hE x;cases hx:ev ts x <;> simp only [hx,reduceCtorEq,Option.map_eq_some_iff,MA.pure.injEq] at h;rename_i vs;obtain ⟨z,hz,rfl⟩:=h;rw [hx] at hr;simp only [Rel] at hr;obtain ⟨us,hv,hr⟩:=hr;obtain ⟨v,hv',hrel⟩:=xk5 hr hz;exact fin (s:=Instr.extract (a.eval x) i) (v:=v) (by unfold execOp;simp only [hop]) (by rw [hv];simp [Instr.extract,hv']) hrel
 | load t x=>
   simp only [hop] at h;cases hT:C.ty t with
   | none=>simp [hT] at h
   | some T=>
     obtain ⟨i,d,hi,hu,hk,hag,hsz,-⟩:=xbj (hC _ _ hT);have hr:=hE x;cases hx:ev ts x <;> simp only [hT,hx,reduceCtorEq,Option.some.injEq] at h;rename_i kd cs;rw [hx] at hr;simp only [Rel] at hr;obtain ⟨b,o',hv,hl,hm⟩:=hr;split at h
     ·rename_i hagg;split at h
      ·rename_i hle;simp only [Option.some.injEq,MA.pure.injEq] at h;subst h;obtain ⟨vs,hvs,_,hcells⟩:=xnm (xnn T.size hm);have hlen:vs.length=T.size:=by rw [<- xb9 hvs];simp;omega
       refine fin (s:=Instr.loadAt t (a.eval x)) (v:=.agg vs.toArray) (by unfold execOp;simp only [hop]) ?_ (by simp only [Rel];exact ⟨vs,rfl,xPl hvs⟩);have hload:=run_loadCells_list (P:=C.P) w ⟨b,o',none⟩ vs (fun j v hj=>by rw [xfx];exact hcells j v hj);rw [hv];rw [hlen,hsz] at hload;simp [Instr.loadAt,Instr.sureAddr,loadVar,Sem.run_bind,xh8 hu,<- hag,hagg,xe7 hi,hload]
      ·cases h
     ·rename_i hagg;simp only [Option.map_eq_some_iff,MA.pure.injEq] at h;obtain ⟨z,hz,rfl⟩:=h;obtain ⟨v,hc,_,hrel⟩:=xyv (i:=0) hm (by rw [<- List.head?_eq_getElem?];exact hz);refine fin (s:=Instr.loadAt t (a.eval x)) (v:=v) (by unfold execOp;simp only [hop]) ?_ (xSz hrel);rw [hv];have:xeb C.P t=false:=by rw [<- hag];simpa using hagg
      simp only [Nat.add_zero] at hc;simp [Instr.loadAt,Instr.sureAddr,loadVar,Sem.run_bind,xh8 hu,this,run_load,hc]
 | call cl=>
   simp only [hop] at h;split at h
   ·rename_i b hb;obtain ⟨consts,he⟩:=xw3 (P:=C.P) (w:=w) (a:=a) hop hb;obtain ⟨v,hv,hrel⟩:=xNp hC hE h o.type consts;exact ⟨v,.inl (by rw [he];exact hv),hrel⟩
   ·split at h <;> simp at h
   ·repeat' (split at h)
    all_goals first
     | (cases h;done)
     | (simp at h;done)
 | _=>simp only [hop] at h;first | (cases h;done) | (repeat (split at h <;> try (simp at h;done)))
end
section
variable {w w':World} {G:Nat->Prop} {ν ν':Names} {J:Nat->Prop}
theorem xju:∀ {es:List (List AV)} {b o s:Nat},xc2 w G es ν J b o s->(∀ e∈es,e.length=s)/\xcf w G es.flatten ν J b o
 | [],_,_,_,_=>⟨(fun _ h=>by cases h),(by simp only [List.flatten_nil,xcf])⟩
 | e :: es,b,o,s,h=>by
   simp only [xc2] at h;obtain ⟨hl,h1,h2⟩:=h;obtain ⟨h3,h4⟩:=xju h2;refine ⟨fun e' he=>(List.mem_cons.1 he).elim (fun h=>h ▸ hl) (h3 e'),?_⟩;rw [List.flatten_cons];exact xxc h1 (by rw [hl];exact h4)
theorem xmc:∀ {es:List (List AV)} {b o s:Nat},(∀ e∈es,e.length=s)->xcf w G es.flatten ν J b o->xc2 w G es ν J b o s
 | [],_,_,_,_,_=>by simp only [xc2]
 | e :: es,b,o,s,hl,h=>by
   rw [List.flatten_cons] at h;have he:=hl e (by simp);simp only [xc2];refine ⟨he,?_,xmc (fun e' h'=>hl e' (by simp [h'])) ?_⟩
   ·have:=xnn e.length h;simpa using this
   ·have:=xia e.length h;rw [List.drop_left,he] at this;exact this
theorem xgq {es:List (List AV)} {s:Nat} (h:∀ e∈es,e.length=s):es.flatten.length=es.length*s:=by
 induction es with
 | nil=>simp
 | cons e es ih=>rw [List.flatten_cons,List.length_append,h e (by simp),ih (fun e' h'=>h e' (by simp [h'])),List.length_cons,Nat.succ_mul];omega
theorem xlg {es:List (List AV)} {s:Nat} (h:∀ e∈es,e.length=s):∀ (n:Nat),(es.take n).flatten=es.flatten.take (n*s):=by
 induction es with
 | nil=>intro n;simp
 | cons e es ih=>
   intro n;have he:=h e (by simp);cases n with
   | zero=>simp
   | succ n=>
     rw [List.take_succ_cons,List.flatten_cons,List.flatten_cons,ih (fun e' h'=>h e' (by simp [h'])),List.take_append,he];rw [show (n+1)*s - s=n*s by rw [Nat.succ_mul];omega];rw [List.take_of_length_le (l:=e) (by rw [he,Nat.succ_mul];omega)]
theorem xux {es:List (List AV)} {s:Nat} (h:∀ e∈es,e.length=s):∀ (n:Nat),(es.drop n).flatten=es.flatten.drop (n*s):=by
 induction es with
 | nil=>intro n;simp
 | cons e es ih=>
   intro n;have he:=h e (by simp);cases n with
   | zero=>simp
   | succ n=>
     rw [List.drop_succ_cons,List.flatten_cons,ih (fun e' h'=>h e' (by simp [h'])),List.drop_append,he];rw [show (n+1)*s - s=n*s by rw [Nat.succ_mul];omega];rw [List.drop_eq_nil_of_le (as:=e) (by rw [he,Nat.succ_mul];omega)];simp
theorem xxs {α:Type} (l:List α) (k:Nat) (x:α) (h:k<l.length):l.set k x=l.take k++[x]++l.drop (k+1):=by
 rw [List.set_eq_take_append_cons_drop,if_pos h];simp
theorem xU7 {es:List (List AV)} {s k j:Nat} {cs vs:List AV} (h:∀ e∈es,e.length=s) (hk:es[k]?=some cs) (hj:j+vs.length<=cs.length) :
    (es.set k (cs.take j++vs++cs.drop (j+vs.length))).flatten=es.flatten.take (k*s+j)++vs++es.flatten.drop (k*s+j+vs.length):=by
 have hlt:k<es.length:=(List.getElem?_eq_some_iff.1 hk).1;have hcs:cs.length=s:=h cs (List.mem_of_getElem? hk);have hsplit:es.flatten=es.flatten.take (k*s)++cs++es.flatten.drop ((k+1)*s):=by
  rw [<- xlg h,<- xux h]
  conv=>lhs;rw [<- List.take_append_drop k es]
  rw [List.flatten_append,List.drop_eq_getElem_cons hlt,List.flatten_cons];rw [show es[k]=cs by have:=List.getElem?_eq_some_iff.1 hk;exact this.2];simp
 have hl1:(es.flatten.take (k*s)).length=k*s:=by
  rw [<- xlg h,xgq (s:=s) (fun e he=>h e (List.mem_of_mem_take he)),List.length_take];congr 1;omega
 rw [xxs _ _ _ hlt];simp only [List.flatten_append,List.flatten_cons,List.flatten_nil,List.append_nil];rw [xlg h,xux h];have e1:es.flatten.take (k*s+j)=es.flatten.take (k*s)++cs.take j:=by
  conv=>lhs;rw [hsplit]
  rw [List.append_assoc,List.take_append,hl1,List.take_of_length_le (by omega),List.take_append];rw [show k*s+j - k*s=j by omega,show j - cs.length=0 by omega];simp
 have e2:es.flatten.drop (k*s+j+vs.length)=cs.drop (j+vs.length)++es.flatten.drop ((k+1)*s):=by
  conv=>lhs;rw [hsplit]
  rw [List.append_assoc,List.drop_append,hl1,List.drop_eq_nil_of_le (by omega),List.nil_append,List.drop_append];rw [show k*s+j+vs.length - k*s=j+vs.length by omega,show j+vs.length - cs.length=0 by omega];simp
 rw [e1,e2];simp [List.append_assoc]
theorem xN6 (ν:Names) (f:Bool):(nu ν f).le ν:=by cases f;exact Names.le_refl _;exact Names.none_le _
theorem xAp (J:Nat->Prop) (f:Bool):∀ b,ju J f b->J b:=by cases f;exact fun _ h=>h;exact fun _ h=>h.elim
theorem yf4 (ν:Names) {f g:Bool} (h:g=true->f=true):(nu ν f).le (nu ν g):=by
 cases g with
 | false=>exact xN6 ν f
 | true=>rw [h rfl];exact Names.le_refl _
theorem yf8 (J:Nat->Prop) {f g:Bool} (h:g=true->f=true):∀ b,ju J f b->ju J g b:=by
 cases g with
 | false=>exact xAp J f
 | true=>rw [h rfl];exact fun _ h=>h
theorem xhg {cs:List AV} {vs:List Value} {f g:Bool} (h:g=true->f=true) (hr:xae w G cs (nu ν f) (ju J f) vs):xae w G cs (nu ν g) (ju J g) vs:=
 xc1 (fun _ h=>h) (fun _ _=>rfl) (fun _=>Nat.le_refl _) cs (yf4 ν h) (fun b hb=>.inl (yf8 J h b hb)) (fun _ _=>rfl) hr
theorem xKx {cs:List AV} {vs:List Value} {f:Bool} (hr:xae w G cs (nu ν f) (ju J f) vs):xae w G cs ν J vs:=
 xc1 (fun _ h=>h) (fun _ _=>rfl) (fun _=>Nat.le_refl _) cs (xN6 ν f) (fun b hb=>.inl (xAp J f b hb)) (fun _ _=>rfl) hr
theorem xPk {c:AV} {v:Value} {f:Bool} (hr:Rel w G c (nu ν f) (ju J f) v):Rel w G c ν J v:=
 xdb (fun _ h=>h) (fun _ _=>rfl) (fun _=>Nat.le_refl _) c (xN6 ν f) (fun b hb=>.inl (xAp J f b hb)) (fun _ _=>rfl) hr
theorem xqq {cs:List AV} {vs:List Value} {f:Bool} (hf:f=true->xfa cs=true) (hr:xae w G cs ν J vs):xae w G cs (nu ν f) (ju J f) vs:=by
 cases f with
 | false=>exact hr
 | true=>exact xEj (hf rfl) hr
theorem xgk (w:World) (b:Nat) (cs:Array Value) {cells:Array Value} {e:TypeId} (h:w.heap[b]?=some (.cells cells e (0,0))):(w.setRow b cs).heap[b]?=some (.cells cs e (0,0)):=by
 unfold World.setRow;show (w.heap.modify b _)[b]?=_;rw [Array.getElem?_modify,if_pos rfl,h];rfl
theorem xka (w:World) (b:Nat) (cs:Array Value) {b':Nat} (h:b'≠b):(w.setRow b cs).heap[b']?=w.heap[b']?:=by
 unfold World.setRow;show (w.heap.modify b _)[b']?=_;rw [Array.getElem?_modify,if_neg (Ne.symm h)]
theorem xm2 (w:World) (b:Nat) (cs:Array Value):(w.setRow b cs).heap.size=w.heap.size:=by
 simp [World.setRow]
theorem xyu {b:Nat} {cells:Array Value} {e:TypeId} {cs:List AV} {vs:List Value} (hb:w.heap[b]?=some (.cells cells e (0,0))) (h:xae w G cs ν J vs) (h1:∀ v∈vs,v.oneCell'=true) (hp:vs <+: cells.toList):xcf w G cs ν J b 0:=by
 refine xpj h h1 fun i v hv=>?_
 obtain ⟨r,hr⟩:=hp;have:cells[i]?=some v:=by
  rw [<- Array.getElem?_toList,<- hr,List.getElem?_append_left (List.getElem?_eq_some_iff.1 hv).1];exact hv
 simp [World.cell?,hb,this]
theorem xxx {b:Nat} {cells:Array Value} {e:TypeId} {cs:List AV} (hb:w.heap[b]?=some (.cells cells e (0,0))) (h:xcf w G cs ν J b 0) :
    xae w G cs ν J (cells.toList.take cs.length)/\∀ v∈cells.toList.take cs.length,v.oneCell'=true:=by
 obtain ⟨vs,hvs,h1,hc⟩:=xnm h;have hlen:=xb9 hvs;have:vs=cells.toList.take cs.length:=by
  apply List.ext_getElem?;intro i;rw [List.getElem?_take];by_cases hi:i<vs.length
  ·have:=hc i vs[i] (by rw [List.getElem?_eq_getElem hi]);simp only [World.cell?,hb,Nat.zero_add,Option.isSome_none,Bool.false_eq_true,if_false] at this;rw [if_pos (by omega),List.getElem?_eq_getElem hi];rw [<- this];simp
  ·rw [List.getElem?_eq_none (by omega),if_neg (by omega)]
 rw [<- this];exact ⟨hvs,h1⟩
end
section
variable {w w':World} {G J U N:Nat->Prop} {ν ν':Names} {h:xap}
theorem xs3 {cs:List AV} {vs:List Value} (S:SR w G J U N ν h) (hk:∀ b,G b\/J b->w'.heap[b]?=w.heap[b]?) (hs:∀ b,xbq w b<=xbq w' b) {f:Bool} {ν':Names} (hν:ν.le ν') (hr:xae w G cs (nu ν f) (ju J f) vs):xae w' G cs (nu ν' f) (ju J f) vs:=by
 have _:=S;refine xc1 (fun _ h=>h) (fun b hb=>hk b (.inl hb)) hs cs ?_ (fun _ h=>.inl h) (fun b hb=>hk b (.inr (xAp J f b hb))) hr;cases f with
 | false=>exact hν
 | true=>exact Names.le_refl _
theorem xTn (w:World) (o:Obj):∀ b,xbq w b<=xbq (w.alloc o) b:=fun b=>by
 by_cases hb:b<w.heap.size
 ·rw [xbq,xbq,xcg _ _ hb];exact Nat.le_refl _
 ·rw [xbq,Array.getElem?_eq_none (by omega)];exact Nat.zero_le _
theorem xqr {b:Nat} {cells:Array Value} {e:TypeId} {f:Nat×Nat} (h:w.heap[b]?=some (.cells cells e f)):xbq w b=cells.size:=by rw [xbq,h]
theorem xtn {b:Nat} {cells cells0:Array Value} {e:TypeId} (h:w.heap[b]?=some (.cells cells0 e (0,0))) (hl:cells0.size<=cells.size):∀ b',xbq w b'<=xbq (w.setRow b cells) b':=fun b'=>by
 by_cases hb:b'=b
 ·subst hb;rw [xqr h,xqr (xgk w b' cells h)];exact hl
 ·rw [xbq,xbq,xka w b cells hb];exact Nat.le_refl _
theorem xA8 (w:World) (b:Nat) (cells:Array Value):(w.setRow b cells).os=w.os/\(w.setRow b cells).output=w.output:=⟨rfl,rfl⟩
theorem xGz (S:SR w G J U N ν h) {at_:Nat} (hf:ν.φ at_=none) {es:List (List AV)} {sz:Nat} {fl:Bool} {vs:List Value} {cells:Array Value} {elem:TypeId}
    (hlen:∀ e∈es,e.length=sz) (hr:xae w G es.flatten (nu ν fl) (ju J fl) vs) (h1:∀ v∈vs,v.oneCell'=true) (hp:vs <+: cells.toList) :
    SR (w.alloc (.cells cells elem)) G J U N (ν.with at_ w.heap.size) (xb7 h at_ (some (.row sz es fl))) /\
     Ext w (w.alloc (.cells cells elem)) G G U U N N (Own ν h) (Own (ν.with at_ w.heap.size) (xb7 h at_ (some (.row sz es fl)))):=by
 refine S.alloc hf ⟨⟨cells,elem,xeo _ _,?_⟩,?_⟩
 ·rw [<- xgq hlen,xb9 hr];obtain ⟨r,hr'⟩:=hp;rw [<- Array.length_toList,<- hr'];simp
 ·exact xmc hlen (xyu (xeo _ _) (xs3 S (fun b hb=>xcg _ _ (hb.elim (S.glt b) (S.jlt b))) (xTn w _) (Names.with_le (.inl hf)) hr) h1 hp)
theorem xlp (S:SR w G J U N ν h) {i:Nat} {B:Blk} (hi:xag h i=some B):∃ b,ν.φ i=some b/\xev w G ν J b B/\¬ G b/\¬ J b/\¬ N b/\Own ν h b:=by
 obtain ⟨b,hb,hB⟩:=S.blk i B hi;have ho:=xJs hi hb;exact ⟨b,hb,hB,fun h=>S.gown b h ho,fun h=>S.jown b h ho,fun h=>S.nown b h ho,ho⟩
theorem xQt (S:SR w G J U N ν h) {i sz:Nat} {es0:List (List AV)} {fl0:Bool} (hi:xag h i=some (.row sz es0 fl0)) {b:Nat} (hb:ν.φ i=some b) {cells0 cells:Array Value} {elem:TypeId} (hc:w.heap[b]?=some (.cells cells0 elem (0,0)))
    {es:List (List AV)} {fl:Bool} {vs:List Value} (hlen:∀ e∈es,e.length=sz) (hr:xae w G es.flatten (nu ν fl) (ju J fl) vs) (h1:∀ v∈vs,v.oneCell'=true) (hp:vs <+: cells.toList) (hs:∀ b',xbq w b'<=xbq (w.setRow b cells) b') :
    SR (w.setRow b cells) G J U N ν (xb7 h i (some (.row sz es fl)))/\Ext w (w.setRow b cells) G G U U N N (Own ν h) (Own ν (xb7 h i (some (.row sz es fl)))):=by
 obtain ⟨b',hb',_,hG,hJ,hN,ho⟩:=xlp S hi;rw [hb] at hb';cases hb';have hk:∀ b',b'≠b->(w.setRow b cells).heap[b']?=w.heap[b']?:=fun b' hne=>xka w b cells hne
 have hB:xev (w.setRow b cells) G ν J b (.row sz es fl):=by
  refine ⟨⟨cells,elem,xgk w b cells hc,?_⟩,?_⟩
  ·rw [<- xgq hlen,xb9 hr];obtain ⟨r,hr'⟩:=hp;rw [<- Array.length_toList,<- hr'];simp
  ·exact xmc hlen (xyu (xgk w b cells hc) (xs3 S (fun c hgj=>hk c (fun e=>by subst e;exact hgj.elim hG hJ)) hs (Names.le_refl _) hr) h1 hp)
 refine ⟨S.put (by rw [xm2];exact Nat.le_refl _) hs (fun b' _ hne=>hk b' hne) hG hJ hN (fun j B hj hB' e=>hj (S.inj j i _ _ b hB' hi e hb)) (Names.le_refl _) hb (fun _ _=>rfl) hB,?_⟩;exact ⟨by rw [xm2];exact Nat.le_refl _,fun c _ hc _=>hk c (fun e=>hc (e ▸ ho)),fun c hc=>(xwr hb (fun _ _=>rfl) hc).elim (fun e=>.inl (e ▸ ho)) .inl,fun _ h=>.inl h,fun _ h=>.inl h,fun _ h=>h,fun _ h=>.inl h,hs,xA8 ..⟩
theorem xX4 (S:SR w G J U N ν h) {i at_ sz:Nat} {es0:List (List AV)} {fl0:Bool} (hi:xag h i=some (.row sz es0 fl0)) {b:Nat} (hb:ν.φ i=some b) (hf:ν.φ at_=none) {cells0 cells:Array Value} {elem:TypeId} (hc:w.heap[b]?=some (.cells cells0 elem (0,0)))
    {es:List (List AV)} {fl:Bool} {vs:List Value} (hlen:∀ e∈es,e.length=sz) (hr:xae w G es.flatten (nu ν fl) (ju J fl) vs) (h1:∀ v∈vs,v.oneCell'=true) (hp:vs <+: cells.toList) (hs:∀ b',xbq w b'<=xbq (w.setRow b cells) b') :
    SR (w.setRow b cells) G J U N (ν.with at_ b) (xb7 (xb7 h i none) at_ (some (.row sz es fl))) /\
     Ext w (w.setRow b cells) G G U U N N (Own ν h) (Own (ν.with at_ b) (xb7 (xb7 h i none) at_ (some (.row sz es fl)))):=by
 obtain ⟨b',hb',_,hG,hJ,hN,ho⟩:=xlp S hi;rw [hb] at hb';cases hb';have hk:∀ b',b'≠b->(w.setRow b cells).heap[b']?=w.heap[b']?:=fun b' hne=>xka w b cells hne
 have hB:xev (w.setRow b cells) G (ν.with at_ b) J b (.row sz es fl):=by
  refine ⟨⟨cells,elem,xgk w b cells hc,?_⟩,?_⟩
  ·rw [<- xgq hlen,xb9 hr];obtain ⟨r,hr'⟩:=hp;rw [<- Array.length_toList,<- hr'];simp
  ·exact xmc hlen (xyu (xgk w b cells hc) (xs3 S (fun c hgj=>hk c (fun e=>by subst e;exact hgj.elim hG hJ)) hs (Names.with_le (.inl hf)) hr) h1 hp)
 have hfree:∀ j B,j≠at_->xag (xb7 h i none) j=some B->ν.φ j≠some b:=by
  intro j B _ hj e;rw [xci] at hj;split at hj
  ·cases hj
  ·rename_i hne;exact hne (S.inj j i _ _ b hj hi e hb).symm
 refine ⟨(S.kill i).put (by rw [xm2];exact Nat.le_refl _) hs (fun b' _ hne=>hk b' hne) hG hJ hN hfree (Names.with_le (.inl hf)) (Names.with_at ..) (fun j hj=>Names.with_other _ _ _ hj) hB,?_⟩;exact ⟨by rw [xm2];exact Nat.le_refl _,fun c _ hc _=>hk c (fun e=>hc (e ▸ ho)),fun c hc=>(xwr (Names.with_at ..) (fun j hj=>Names.with_other _ _ _ hj) hc).elim (fun e=>.inl (e ▸ ho)) (fun h=>.inl (xVu h)),
  fun _ h=>.inl h,fun _ h=>.inl h,fun _ h=>h,fun _ h=>.inl h,hs,xA8 ..⟩
structure Left {S:Type} (w:World) (G J U N:Nat->Prop) (ν:Names) (h:xap) (at_:Nat) (s:S) (r:Res S) (v:Value) (w':World) (ν':Names):Prop where
 same:r.s=s
 sr:SR w' G J U N ν' (xdn (xcn h r.ups) at_ r.news)
 le:ν.le ν'
 y : ν'.y=ν.y
 rel:Rel w' G r.v ν' J v
 ext:Ext w w' G G U U N N (Own ν h) (Own ν' (xdn (xcn h r.ups) at_ r.news))
 names:∀ j,ν'.φ j≠ν.φ j->at_<=j/\j<at_+r.news.length
theorem xfg {S:Type} (Sr:SR w G J U N ν h) {at_:Nat} {s:S} {c:AV} {v:Value} (hr:Rel w G c ν J v):Left w G J U N ν h at_ s ⟨c,[],[],s⟩ v w ν:=
 ⟨rfl,Sr,Names.le_refl _,rfl,hr,Ext.refl ..,fun _ h=>absurd rfl h⟩
theorem xyc {S:Type} (Sr:SR w G J U N ν h) {at_:Nat} {s:S} {c:AV} {v:Value} {B:Blk} {wb:World} {b:Nat} (hf:ν.φ at_=none) (hs:SR wb G J U N (ν.with at_ b) (xb7 h at_ (some B)))
    (he:Ext w wb G G U U N N (Own ν h) (Own (ν.with at_ b) (xb7 h at_ (some B)))) (hr:Rel wb G c (ν.with at_ b) J v):Left w G J U N ν h at_ s ⟨c,[],[some B],s⟩ v wb (ν.with at_ b):=
 have _:=Sr
 ⟨rfl,hs,Names.with_le (.inl hf),rfl,hr,he,fun j hj=>by
  by_cases e:j=at_
  ·subst e;simp
  ·exact absurd (Names.with_other _ _ _ e) hj⟩
theorem xtb {P:Program} {t:TypeId} {i:TypeInfo} {z:Value} (hi:P.info? t=some i) (hz:i.zero=some z):(zeroValue t).run P w=.ok z w:=by
 simp [zeroValue,typeInfo,hi,hz]
theorem xzp {P:Program} (elem:TypeId) (cells:Array Value):(newRow elem cells).run P w=.ok ⟨w.heap.size,0,none⟩ (w.alloc (.cells cells elem)):=by
 simp [newRow]
theorem xD0 {C:Cfg} (Sr:SR w G J U N ν h) {S:Type} {s:S} {H:Option (Hd S)} {call:xb6} {look:Nat->Option Blk} {at_:Nat} {e:List AV} {v:Value} (hr:xae w G e ν J v.cells.toList) {r:Res S}
    (hf:r.news≠[]->ν.φ at_=none) (ha:act C call H at_ look s (.newp e.length e)=some r) (elem:TypeId) :
    Left w G J U N ν h at_ s r (.pointer (some ⟨w.heap.size,0,none⟩)) (w.alloc (.cells v.cells elem)) (ν.with at_ w.heap.size):=by
 simp only [act] at ha;split at ha
 case isFalse=>cases ha
 rename_i hok;cases ha;have hf:=hf (by simp);obtain ⟨h1,h2⟩:=xGz Sr hf (es:=[e]) (sz:=e.length) (fl:=xfa e) (vs:=v.cells.toList) (cells:=v.cells) (elem:=elem) (by simp) (by simpa using xqq (fun h=>h) hr) (xvq hok hr) (List.prefix_refl _);refine xyc Sr hf h1 h2 ?_;simp only [Rel];exact ⟨_,Names.with_at ..,by simp⟩
theorem xT5 {es:List (List AV)} (h:okE es=true):okL es.flatten=true:=by
 induction es with
 | nil=>rfl
 | cons e es ih=>
   simp only [okE,Bool.and_eq_true] at h;rw [List.flatten_cons];have:=ih h.2;obtain ⟨h1,_⟩:=h;clear ih;induction e with
   | nil=>simpa using this
   | cons c e ih2=>
     simp only [okL,Bool.and_eq_true] at h1;simp only [List.cons_append,okL,Bool.and_eq_true];exact ⟨h1.1,ih2 h1.2⟩
theorem xO1 {es:List (List AV)} (h:xsp es=true):xfa es.flatten=true:=by
 induction es with
 | nil=>rfl
 | cons e es ih=>
   simp only [xsp,Bool.and_eq_true] at h;rw [List.flatten_cons];have:=ih h.2;obtain ⟨h1,_⟩:=h;clear ih;induction e with
   | nil=>simpa using this
   | cons c e ih2=>
     simp only [xfa,Bool.and_eq_true] at h1;simp only [List.cons_append,xfa,Bool.and_eq_true];exact ⟨h1.1,ih2 h1.2⟩
theorem xUv {es:List (List AV)} {s:Nat} (h:xse s es=true):∀ e∈es,e.length=s:=by
 induction es with
 | nil=>intro e he;cases he
 | cons e es ih=>
   simp only [xse,Bool.and_eq_true,decide_eq_true_eq] at h;intro e' he;rcases List.mem_cons.1 he with rfl | he
   ·exact h.1
   ·exact ih h.2 e' he
theorem xDz {C:Cfg} (Sr:SR w G J U N ν h) {S:Type} {s:S} {H:Option (Hd S)} {call:xb6} {look:Nat->Option Blk} {at_:Nat} {es:List (List AV)} {sz n m:Nat} {cells:Array Value}
    (hr:xae w G es.flatten ν J cells.toList) (hnm:n<=m) (hn:m*sz<=cells.size) {r:Res S} (hf:r.news≠[]->ν.φ at_=none) (ha:act C call H at_ look s (.news sz es n m)=some r) (elem:TypeId) :
    Left w G J U N ν h at_ s r (.slice (some ⟨w.heap.size,0,none⟩) n m) (w.alloc (.cells cells elem)) (ν.with at_ w.heap.size):=by
 simp only [act] at ha;split at ha
 case isFalse=>cases ha
 rename_i hok;simp only [Bool.and_eq_true] at hok;cases ha;have hf:=hf (by simp);obtain ⟨h1,h2⟩:=xGz Sr hf (es:=es) (sz:=sz) (fl:=xsp es) (vs:=cells.toList) (cells:=cells) (elem:=elem) (xUv hok.2) (xqq xO1 hr) (xvq (xT5 hok.1) hr) (List.prefix_refl _);refine xyc Sr hf h1 h2 ?_;simp only [Rel];exact ⟨_,0,m,Names.with_at ..,rfl,hnm,by simp,by simp,by rw [xqr (xeo ..)];omega⟩
theorem xTs (S:SR w G J U N ν h) (o:Obj) (hs:∀ b,xbq w b<=xbq (w.alloc o) b):SR (w.alloc o) G J U N ν h:=
 have lt:∀ {b},b<w.heap.size->b<(w.alloc o).heap.size:=fun {b} h=>by rw [xfb];omega
 ⟨fun i B hB=>let ⟨b,hb,hr⟩:=S.blk i B hB;⟨b,hb,xgg (fun _ h=>h) (fun b hb=>xcg _ _ (S.glt b hb)) hs (fun b hb=>xcg _ _ (S.jlt b hb)) (Names.le_refl _) (xcg _ _ (S.own_lt ⟨i,B,hB,hb⟩)) hr⟩,
  S.inj,S.dom,fun b hb=>lt (S.glt b hb),fun b hb=>lt (S.jlt b hb),fun b hb=>lt (S.nlt b hb),S.gown,S.jown,S.nown,S.gu,S.ju,S.un⟩
theorem xRn (Sr:SR w G J U N ν h) {S:Type} {s:S} {at_ sz:Nat} (cells:Array Value) (elem:TypeId) :
    Left w G J U N ν h at_ s ⟨.ro .g true sz [],[],[],s⟩ (.slice (some ⟨w.heap.size,0,none⟩) 0 0) (w.alloc (.cells cells elem)) ν:=by
 have hs:∀ b,xbq w b<=xbq (w.alloc (.cells cells elem)) b:=fun b=>by
  by_cases hb:b<w.heap.size
  ·rw [xbq,xbq,xcg _ _ hb];exact Nat.le_refl _
  ·rw [xbq,Array.getElem?_eq_none (by omega)];exact Nat.zero_le _
 refine ⟨rfl,xTs Sr _ hs,Names.le_refl _,rfl,?_,⟨by rw [xfb];omega,fun b hb _ _=>xcg _ _ hb,fun _ h=>.inl h,fun _ h=>.inl h,fun _ h=>.inl h,fun _ h=>h,fun _ h=>.inl h,hs,rfl,rfl⟩,fun _ h=>absurd rfl h⟩;simp only [Rel];exact .inl ⟨trivial,_,0,rfl,fun _=>rfl⟩
theorem xui {C:Cfg} (Sr:SR w G J U N ν h) {S:Type} {s:S} {H:Option (Hd S)} {call:xb6} {look:Nat->Option Blk} {at_:Nat} (hl:∀ i B,look i=some B->xag h i=some B) {t:TypeId} {T:Ty} (hT:xcc C.P t=some T)
    {i sz k j:Nat} {v:Value} (hv:Rel w G (.ptr i sz k j) ν J v) {r:Res S} (ha:act C call H at_ look s (.load i sz k j T.agg T.size)=some r) :
    ∃ u,(Instr.loadAt t v).run C.P w=.ok u w/\Left w G J U N ν h at_ s r u w ν:=by
 obtain ⟨it,d,hi,hu,hk,hag,hsz,-⟩:=xbj hT;simp only [act] at ha;split at ha
 case h_2=>cases ha
 rename_i s' es fl hlk;split at ha
 case isFalse=>cases ha
 rename_i hs;subst hs;split at ha
 case h_2=>cases ha
 rename_i cs hcs;obtain ⟨b,hb,hB,_⟩:=xlp Sr (hl _ _ hlk);simp only [Rel] at hv;obtain ⟨b',hb',rfl⟩:=hv;rw [hb] at hb';cases hb';obtain ⟨_,hm⟩:=hB;obtain ⟨_,hm2⟩:=xk6 hm hcs;have hm3:=xia j hm2;rw [Nat.zero_add] at hm3;split at ha
 ·rename_i hagg;split at ha
  case isFalse=>cases ha
  rename_i hle;cases ha;obtain ⟨vs,hvs,_,hcells⟩:=xnm (xnn T.size hm3);have hlen:vs.length=T.size:=by rw [<- xb9 hvs];simp;omega
  refine ⟨.agg vs.toArray,?_,xfg Sr (by simp only [Rel];exact ⟨vs,rfl,xKx hvs⟩)⟩;have hload:=run_loadCells_list (P:=C.P) w ⟨b,k*s'+j,none⟩ vs (fun q v hq=>by rw [xfx];exact hcells q v hq);rw [hlen,hsz] at hload;simp [Instr.loadAt,Instr.sureAddr,loadVar,Sem.run_bind,xh8 hu,<- hag,hagg,xe7 hi,hload]
 ·rename_i hagg;split at ha
  case h_2=>cases ha
  rename_i c hc;cases ha;obtain ⟨u,hcell,_,hrel⟩:=xyv (i:=0) hm3 (by rw [List.getElem?_drop];exact hc);refine ⟨u,?_,xfg Sr (xPk hrel)⟩;have:xeb C.P t=false:=by rw [<- hag];simpa using hagg
  simp only [Nat.add_zero] at hcell;simp [Instr.loadAt,Instr.sureAddr,loadVar,Sem.run_bind,xh8 hu,this,run_load,hcell]
theorem xml {S:Type} (Sr:SR w G J U N ν h) {at_:Nat} {s:S} {c:AV} {v:Value} {i:Nat} {B:Blk} {wb:World} (hs:SR wb G J U N ν (xb7 h i (some B))) (he:Ext w wb G G U U N N (Own ν h) (Own ν (xb7 h i (some B))))
    (hr:Rel wb G c ν J v):Left w G J U N ν h at_ s ⟨c,[(i,some B)],[],s⟩ v wb ν:=
 have _:=Sr
 ⟨rfl,hs,Names.le_refl _,rfl,hr,he,fun _ h=>absurd rfl h⟩
theorem xMw {C:Cfg} (Sr:SR w G J U N ν h) {S:Type} {s:S} {H:Option (Hd S)} {call:xb6} {look:Nat->Option Blk} {at_:Nat} (hl:∀ i B,look i=some B->xag h i=some B) {t:TypeId} {T:Ty} (hT:xcc C.P t=some T)
    {i sz k j:Nat} {v x:Value} (hv:Rel w G (.ptr i sz k j) ν J v) {cs:List AV} (hx:xae w G cs ν J x.cells.toList) (hsize:cs.length=T.size) {r:Res S} (ha:act C call H at_ look s (.store i sz k j cs)=some r) :
    ∃ w',(Instr.storeAt t v x).run C.P w=.ok () w'/\Left w G J U N ν h at_ s r undef w' ν:=by
 obtain ⟨it,d,hi,hu,hk,hag,hsz,-⟩:=xbj hT;simp only [act] at ha;split at ha
 case h_2=>cases ha
 rename_i s' es fl hlk;split at ha
 case isFalse=>cases ha
 rename_i hs;subst hs;split at ha
 case h_2=>cases ha
 rename_i cs0 hcs;split at ha
 case isFalse=>cases ha
 rename_i hle;cases ha;obtain ⟨b,hb,hB,_⟩:=xlp Sr (hl _ _ hlk);simp only [Rel] at hv;obtain ⟨b',hb',rfl⟩:=hv;rw [hb] at hb';cases hb';obtain ⟨⟨cells,elem,hc,hfit⟩,hm⟩:=hB;obtain ⟨hlen,hflat⟩:=xju hm;have hfl:=xgq hlen;obtain ⟨hrow,hone⟩:=xxx hc hflat;have hklt:k<es.length:=(List.getElem?_eq_some_iff.1 hcs).1;have hcs0:cs0.length=s':=hlen cs0 (List.mem_of_getElem? hcs);have hxl:cs.length=x.cells.size:=by simpa using xb9 hx
 have hoff:k*s'+j+cs.length<=es.length*s':=by
  have:(k+1)*s'<=es.length*s':=Nat.mul_le_mul_right s' hklt;rw [Nat.succ_mul] at this;omega
 have hx1:=xvq hle.2 hx;have hst:=run_storeCells_at C.P b (k*s'+j) elem x.cells.toList 0 cells w hc (by simp;omega) hx1;simp only [Nat.add_zero] at hst;have hfit2:es.flatten.length<=cells.size:=by rw [hfl];exact hfit
 have hrow1:xae w G es.flatten (nu ν (fl && xfa cs)) (ju J (fl && xfa cs)) (cells.toList.take es.flatten.length):=xhg (by simp_all) hrow;have hx2:xae w G cs (nu ν (fl && xfa cs)) (ju J (fl && xfa cs)) x.cells.toList:=xqq (by simp_all) hx;have hnew:xae w G (es.flatten.take (k*s'+j)++cs++es.flatten.drop (k*s'+j+cs.length)) (nu ν (fl && xfa cs)) (ju J (fl && xfa cs))
     ((cells.toList.take es.flatten.length).take (k*s'+j)++x.cells.toList++(cells.toList.take es.flatten.length).drop (k*s'+j+cs.length)):=
  xcd (xcd (xhf _ hrow1) hx2) (xjt _ hrow1)
 obtain ⟨h1,h2⟩:=xQt Sr (hl _ _ hlk) hb hc (es:=es.set k (cs0.take j++cs++cs0.drop (j+cs.length))) (fl:=fl && xfa cs)
  (vs:=(cells.toList.take es.flatten.length).take (k*s'+j)++x.cells.toList++(cells.toList.take es.flatten.length).drop (k*s'+j+cs.length))
  (cells:=(cells.toList.take (k*s'+j)++x.cells.toList++cells.toList.drop (k*s'+j+x.cells.toList.length)).toArray)
  (by
   intro e he;rcases List.mem_or_eq_of_mem_set he with he | rfl
   ·exact hlen e he
   ·simp;omega)
  (by rw [xU7 hlen hcs hle.1];exact hnew)
  (by
   intro u hu;simp only [List.mem_append] at hu;rcases hu with (hu | hu) | hu
   ·exact hone u (List.mem_of_mem_take hu)
   ·exact hx1 u hu
   ·exact hone u (List.mem_of_mem_drop hu))
  (by
   have e1:(cells.toList.take es.flatten.length).take (k*s'+j)=cells.toList.take (k*s'+j):=by
    rw [List.take_take,Nat.min_eq_left (by rw [hfl];omega)]
   rw [e1];simp only [List.append_assoc];refine (List.prefix_append_right_inj _).2 ((List.prefix_append_right_inj _).2 ?_);rw [show x.cells.toList.length=cs.length by simp [hxl]];rw [List.drop_take];exact List.take_prefix _ _)
  (xtn hc (by simp;omega))
 refine ⟨_,?_,xml Sr h1 h2 (by simp only [Rel])⟩;have hsz':x.cells.size=it.size:=by rw [<- hxl,hsize,hsz]
 simp [Instr.storeAt,Instr.sureAddr,storeVar,Sem.run_bind,xe7 hi,hsz',hst]
end
section
variable {w w':World} {G J U N:Nat->Prop} {ν ν':Names} {h:xap} {P:Program}
theorem xwo {a b:Bool} (h:(a && b)=true):a=true:=by cases a;cases h;rfl
theorem xL8 {a b:Bool} (h:(a && b)=true):b=true:=by cases a;cases h;exact h
theorem xxo {sz c:Nat} {tx e':TypeId} (hk:P.underlying tx=some (.slice e')) (a:Option Addr):Src P sz tx (.slice a 0 c) 0 [] w:=by
 cases a with
 | none=>exact Src.ofNil w hk c
 | some a=>exact Src.ofSlice w hk a 0 c [] (by simp) (fun j u h=>by simp at h) (fun _ h=>by cases h)
theorem xtx {n c:Nat} {b o sz:Nat} {tx e':TypeId} (hk:P.underlying tx=some (.slice e')) {cs:List AV} {ν:Names} {J:Nat->Prop} (hm:xcf w G cs ν J b o) (hl:cs.length=n*sz) :
    ∃ news,Src P sz tx (.slice (some ⟨b,o,none⟩) n c) n news w/\xae w G cs ν J news/\∀ k,k<=n->(Builtin.firstCells sz k (.slice (some ⟨b,o,none⟩) n c)).run P w=.ok (news.take (k*sz)).toArray w:=by
 obtain ⟨vs,hvs,h1,hc⟩:=xnm hm;have hlen:vs.length=n*sz:=by rw [<- xb9 hvs,hl]
 have hc':∀ j u,vs[j]?=some u->w.cell? ((⟨b,o,none⟩:Addr).add j)=some u:=fun j u hj=>by rw [xfx];exact hc j u hj
 refine ⟨vs,Src.ofSlice w hk _ n c vs hlen hc' h1,hvs,fun k hk=>?_⟩;refine run_firstCells_some w sz k _ n c _ ?_ fun j u hj=>?_
 ·rw [List.length_take,hlen];exact Nat.min_eq_left (Nat.mul_le_mul_right sz hk)
 ·rw [List.getElem?_take] at hj;split at hj
  ·exact hc' j u hj
  ·cases hj
theorem xu8 (Sr:SR w G J U N ν h) {look:Nat->Option Blk} (hl:∀ i B,look i=some B->xag h i=some B) {sz:Nat} {x:AV} {v:Value} (hx:Rel w G x ν J v) {xs:List (List AV)} {fx:Bool} (hc:xgs look sz x=some (xs,fx))
    {tx e':TypeId} (hk:P.underlying tx=some (.slice e')) :
    ∃ news,Src P sz tx v xs.length news w/\xae w G xs.flatten (nu ν fx) (ju J fx) news/\(∀ e∈xs,e.length=sz)/\∀ k,k<=xs.length->(Builtin.firstCells sz k v).run P w=.ok (news.take (k*sz)).toArray w:=by
 cases x <;> simp only [xgs,reduceCtorEq] at hc
 case nils=>
  cases hc;simp only [Rel] at hx;subst hx;refine ⟨[],Src.ofNil w hk 0,xbh,(fun e he=>by cases he),fun k hk=>?_⟩;rw [show k=0 by simpa using hk];simpa using run_firstCells_none (P:=P) w sz 0 0 0
 case ro kd c0 s es=>
  split at hc
  case isFalse=>cases hc
  rename_i hs;cases hc;subst hs;simp only [Rel] at hx;rcases hx with ⟨rfl,a,c,rfl,_⟩ | ⟨b,o,cap,rfl,_,_,_,hm⟩
  ·refine ⟨[],xxo hk a,xbh,(fun e he=>by cases he),fun k hk'=>?_⟩;rw [show k=0 by simpa using hk'];simpa using (xxo (w:=w) (sz:=s) (c:=c) hk a).cells
  obtain ⟨hlen,hflat⟩:=xju hm;obtain ⟨news,h1,h2,h3⟩:=xtx hk hflat (xgq hlen) (c:=cap);refine ⟨news,h1,?_,hlen,h3⟩;cases kd with
  | g=>exact h2
  | b=>exact h2
  | n=>exact xc1 (fun _ h=>h) (fun _ _=>rfl) (fun _=>Nat.le_refl _) _ (Names.none_le _) (fun _ h=>.inl h) (fun _ _=>rfl) h2
 case sl i s lo n cap=>
  split at hc
  case h_2=>cases hc
  rename_i s' es flat hlk;split at hc
  case isFalse=>cases hc
  rename_i hs;obtain ⟨rfl,rfl,hle⟩:=hs;cases hc;simp only [Rel] at hx;obtain ⟨b,o,c,hφ,rfl,_,ho,_⟩:=hx;obtain ⟨b',hb',hB,_⟩:=xlp Sr (hl _ _ hlk);rw [hφ] at hb';cases hb';obtain ⟨_,hm⟩:=hB;have hm2:xc2 w G ((es.drop lo).take n) (nu ν fx) (ju J fx) b o s':=by
   by_cases hn:0<n
   ·rw [ho (.inl hn)];have:=xqd n (xqf lo hm)
    rwa [Nat.zero_add] at this
   ·have:n=0:=by omega
    subst this;simp only [List.take_zero,xc2]
  have hln:((es.drop lo).take n).length=n:=by simp;omega
  obtain ⟨hlen,hflat⟩:=xju hm2;obtain ⟨news,h1,h2,h3⟩:=xtx hk hflat (xgq hlen) (c:=c);rw [hln] at h1 h3;rw [hln];exact ⟨news,h1,h2,hlen,h3⟩
theorem xte (w:World) (t tx ty e:TypeId) (i:TypeInfo) (ht:P.underlying t=some (.slice e)) (hi:P.info? e=some i) (b off sLen sCap:Nat) (x:Value) (n:Nat) (news:List Value) (hs:Src P i.size tx x n news w)
    {cur:Array Value} {elem:TypeId} (hg:w.heap[b]?=some (.cells cur elem (0,0))) (hroom:sLen+n<=sCap) (hfit:off+sLen*i.size+news.length<=cur.size) :
    (Builtin.append_ #[t,tx] ty #[.slice (some ⟨b,off,none⟩) sLen sCap,x]).run P w =
     .ok (.slice (some ⟨b,off,none⟩) (sLen+n) sCap) (w.setRow b (cur.toList.take (off+sLen*i.size)++news++cur.toList.drop (off+sLen*i.size+news.length)).toArray):=by
 have hst:=run_storeCells_at P b (off+sLen*i.size) elem news 0 cur w hg (by simpa using hfit) hs.one;simp only [Nat.add_zero] at hst;rcases hs.kind with ⟨e',hk⟩ | hk <;> simp [Builtin.append_,run_underlying ht,run_underlying hk,sizeOf,typeInfo,hi,hs.len,hroom,hs.cells,Addr.add_lit,hst]
theorem Ext.drewKill (w:World) (G U N:Nat->Prop) (ν:Names) (h:xap) {h':xap} (hl:∀ c,Own ν h' c->Own ν h c):Ext w w.drew G G U U N N (Own ν h) (Own ν h'):=
 ⟨Nat.le_refl _,fun _ _ _ _=>rfl,fun _ h=>.inl (hl _ h),fun _ h=>.inl h,fun _ h=>.inl h,fun _ h=>h,fun _ h=>.inl h,fun _=>Nat.le_refl _,rfl,rfl⟩
theorem xp4 (Sr:SR w G J U N ν h) {h':xap} {ups:List (Nat×Option Blk)} (hups':xcn h ups=h') (hless:∀ i B,xag h' i=some B->xag h i=some B) (hd:h.length<=h'.length) {S:Type} {s:S} {at_:Nat} (hf:ν.φ at_=none)
    {t tx ty e:TypeId} {i:TypeInfo} {z:Value} (ht:P.underlying t=some (.slice e)) (hi:P.info? e=some i) (hz:i.zero=some z) (hzl:z.cells.size=i.size)
    {base:Option Addr} {sLen sCap:Nat} {olds:List Value} (hold:(Builtin.firstCells i.size sLen (.slice base sLen sCap)).run P w.drew=.ok olds.toArray w.drew) {x:Value} {news:List Value} {xs es:List (List AV)} (hs:Src P i.size tx x xs.length news w)
    (hg:sCap<sLen+xs.length) (hbig:sLen+xs.length<=2 ^ 62) (hby:(sLen+xs.length)*i.bytes<=2 ^ 47) (hes:es.length=sLen) (hlen:∀ e∈es++xs,e.length=i.size)
    {fl:Bool} (ho:xae w G es.flatten (nu ν fl) (ju J fl) olds) (hx:xae w G xs.flatten (nu ν fl) (ju J fl) news) (h1:∀ v∈olds,v.oneCell'=true) :
    ∃ u w' ν',(Builtin.append_ #[t,tx] ty #[.slice base sLen sCap,x]).run P w=.ok u w'/\Left w G J U N ν h at_ s ⟨.sl at_ i.size 0 (sLen+xs.length) none,ups,[some (.row i.size (es++xs) fl)],s⟩ u w' ν':=by
 have hrun:=run_append_grow_src w t tx ty e i z ht hi hz base sLen sCap olds hold x xs.length news hs hg (by omega) (growslice_fits hg (by omega));have Sr':SR w.drew G J U N ν h':=(Sr.drew (w':=w.drew) rfl).less hless hd;have hf':ν.φ at_=none:=hf;have hrel:xae w G (es++xs).flatten (nu ν fl) (ju J fl) (olds++news):=by rw [List.flatten_append];exact xcd ho hx
 have hrel':xae w.drew G (es++xs).flatten (nu ν fl) (ju J fl) (olds++news):=xc1 (w:=w) (w':=w.drew) (fun _ h=>h) (fun _ _=>rfl) (fun _=>Nat.le_refl _) _ (Names.le_refl _) (fun _ h=>.inl h) (fun _ _=>rfl) hrel;obtain ⟨s1,e1⟩:=xGz Sr' hf' (es:=es++xs) (sz:=i.size) (fl:=fl) (vs:=olds++news) (cells:=(olds++news).toArray++Builtin.zeroCells z.cells (grownCap w (sLen+xs.length) sCap e - (sLen+xs.length))) (elem:=e)
  hlen hrel' (fun v hv=>(List.mem_append.1 hv).elim (h1 v) (hs.one v)) (by simp [List.append_assoc])
 have hge:=grownCap_ge w (sLen+xs.length) sCap e;refine ⟨_,_,ν.with at_ w.heap.size,hrun,⟨rfl,?_,Names.with_le (.inl hf),rfl,?_,?_,?_⟩⟩
 ·rw [hups'];exact s1
 ·simp only [Rel];refine ⟨w.heap.size,0,_,Names.with_at ..,rfl,hge,by simp,by simp,?_⟩;have hsz:=xqr (xeo w.drew (.cells ((olds++news).toArray++Builtin.zeroCells z.cells (grownCap w (sLen+xs.length) sCap e - (sLen+xs.length))) e));have hol:(olds++news).length=(sLen+xs.length)*i.size:=by rw [<- xb9 hrel,xgq hlen,List.length_append,hes]
  refine Nat.le_trans ?_ (Nat.le_of_eq hsz.symm);rw [Array.size_append,List.size_toArray,hol,size_zeroCells,hzl,<- Nat.add_mul,Nat.zero_add];exact Nat.mul_le_mul_right _ (by omega)
 ·show Ext w _ G G U U N N _ (Own _ (xb7 (xcn h ups) at_ _));rw [hups'];exact (Ext.drewKill w G U N ν h (fun c ⟨i,B,a,b⟩=>⟨i,B,hless i B a,b⟩)).trans e1
 ·intro j hj;by_cases e:j=at_
  ·subst e;simp
  ·exact absurd (Names.with_other _ _ _ e) hj
theorem append_left {C:Cfg} (Sr:SR w G J U N ν h) {S:Type} {s:S} {H:Option (Hd S)} {call:xb6} {look:Nat->Option Blk} (hl:∀ i B,look i=some B->xag h i=some B) {at_:Nat}
    {t tx ty e e':TypeId} {i:TypeInfo} {z:Value} (ht:P.underlying t=some (.slice e)) (hk:P.underlying tx=some (.slice e')) (hi:P.info? e=some i) (hz:i.zero=some z) (hzl:z.cells.size=i.size)
    {a x:AV} {va vx:Value} (ha:Rel w G a ν J va) (hx:Rel w G x ν J vx) {r:Res S} (hf:r.news≠[]->ν.φ at_=none) (hr:act C call H at_ look s (.append a x i.size i.bytes)=some r) :
    ∃ u w' ν',(Builtin.append_ #[t,tx] ty #[va,vx]).run P w=.ok u w'/\Left w G J U N ν h at_ s r u w' ν':=by
 simp only [act] at hr;split at hr
 ·cases hr
 rename_i xs fx hxs;obtain ⟨news,hsrc,hnews,hxl,-⟩:=xu8 Sr hl hx hxs hk (P:=P);have nothing:xs.isEmpty=true->∀ {base sLen sCap},sLen<=sCap->(Builtin.append_ #[t,tx] ty #[.slice base sLen sCap,vx]).run P w=.ok (.slice base sLen sCap) w:=by
  intro he base sLen sCap hle;have:xs=[]:=by simpa using he
  subst this;simp only [List.flatten_nil,xae] at hnews;subst hnews;exact run_append_nothing w t tx ty e i ht hi base sLen sCap hle vx hsrc
 cases a <;> simp only [reduceCtorEq] at hr
 case nils=>
  simp only [Rel] at ha;subst ha;split at hr
  ·rename_i he;cases hr;exact ⟨_,w,ν,nothing he (Nat.le_refl _),xfg Sr (by simp only [Rel])⟩
  ·rename_i he;split at hr
   case isFalse=>cases hr
   rename_i hb;cases hr;have hf:=hf (by simp);have := xp4 Sr (s:=s) (P:=P) (ups:=[]) rfl (fun _ _ h=>h) (Nat.le_refl _) hf (ty:=ty) ht hi hz hzl (base:=none) (sLen:=0) (sCap:=0) (olds:=[]) (by simpa using run_firstCells_none (P:=P) w.drew i.size 0 0 0) (es:=[]) hsrc (fl:=fx)
    (by have:0<xs.length:=by (rw [List.length_pos_iff];simpa using he)
        omega) (by omega) (by simpa using hb.2.1) rfl (by simpa using hxl) (by simpa using xbh) hnews (by simp)
   simpa using this
 case ro kd c0 sr es=>
  simp only [Rel] at ha;rcases ha with ⟨rfl,ad,cp,rfl,hc0⟩ | ⟨b,o,cap,rfl,hcap,hc0,hloc,hm⟩
  ·split at hr
   ·rename_i he;cases hr;exact ⟨_,w,ν,nothing he (Nat.zero_le _),xfg Sr (by simp only [Rel];exact .inl ⟨by trivial,ad,cp,rfl,hc0⟩)⟩
   ·rename_i he;split at hr
    case isFalse=>cases hr
    rename_i hb;cases hr;have hf:=hf (by simp);simp only [Bool.and_eq_true,decide_eq_true_eq] at hb;obtain ⟨hb0,rfl,hb1,hb2,hb3⟩:=hb;have:=hc0 hb0;subst this;have := xp4 Sr (s:=s) (P:=P) (ups:=[]) rfl (fun _ _ h=>h) (Nat.le_refl _) hf (ty:=ty) ht hi hz hzl (base:=ad) (sLen:=0) (sCap:=0) (olds:=[]) (by simpa using (xxo (w:=w) (sz:=i.size) (c:=0) hk ad).cellsD) (es:=[]) hsrc (fl:=fx && !(decide (kd=.n)))
     (by have:0<xs.length:=by (rw [List.length_pos_iff];simpa using he)
         omega) (by simpa using hb1) (by simpa using hb2) rfl (by simpa using hxl) (by simpa using xbh) (xhg xwo hnews) (by simp)
    simpa using this
  split at hr
  ·rename_i he;cases hr;exact ⟨_,w,ν,nothing he hcap,xfg Sr (by simp only [Rel];exact .inr ⟨b,o,cap,rfl,hcap,hc0,hloc,hm⟩)⟩
  ·rename_i he;split at hr
   case isFalse=>cases hr
   rename_i hb;cases hr;have hf:=hf (by simp);simp only [Bool.and_eq_true,decide_eq_true_eq] at hb;obtain ⟨hb0,rfl,hb1,hb2,hb3⟩:=hb;have hcape:=hc0 hb0;obtain ⟨hlen,hflat⟩:=xju hm;obtain ⟨olds,hso,holds,hfo⟩:=xtx (w:=w) (P:=P) hk hflat (xgq hlen) (c:=cap);have hold':(Builtin.firstCells i.size es.length (.slice (some ⟨b,o,none⟩) es.length cap)).run P w.drew=.ok olds.toArray w.drew:=hso.cellsD;have hrelo:xae w G es.flatten (nu ν (fx && !(decide (kd=.n)))) (ju J (fx && !(decide (kd=.n)))) olds:=by
    cases kd with
    | n => 
      simp only [decide_true,Bool.not_true,Bool.and_false];exact xc1 (fun _ h=>h) (fun _ _=>rfl) (fun _=>Nat.le_refl _) _ (Names.none_le _) (fun _ h=>.inl h) (fun _ _=>rfl) holds
    | g=>exact xhg (f:=true) (fun _=>rfl) holds
    | b=>exact xhg (f:=true) (fun _=>rfl) holds
   exact xp4 Sr (s:=s) (P:=P) (ups:=[]) rfl (fun _ _ h=>h) (Nat.le_refl _) hf (ty:=ty) ht hi hz hzl hold' hsrc
    (by have:0<xs.length:=by (rw [List.length_pos_iff];simpa using he)
        omega) hb1 hb2 rfl (fun e he=>(List.mem_append.1 he).elim (hlen e) (hxl e)) hrelo (xhg xwo hnews) hso.one
 case sl j sj lo n cap=>
  simp only [Rel] at ha;obtain ⟨b,o,c,hφ,rfl,hn,ho,hcap,hroom⟩:=ha;split at hr
  ·rename_i he;cases hr;exact ⟨_,w,ν,nothing he hn,xfg Sr (by simp only [Rel];exact ⟨b,o,c,hφ,rfl,hn,ho,hcap,hroom⟩)⟩
  ·rename_i he;split at hr
   case h_2=>cases hr
   rename_i s'' es flat hlk;split at hr
   case isFalse=>cases hr
   rename_i hb;obtain ⟨rfl,rfl,rfl,hb1,hb2,hb3,hb4⟩:=hb;cases hr;have hf:=hf (by simp);have ho0:o=0:=by have:=ho (.inr rfl);simpa using this
   subst ho0;have hhg:=hl _ _ hlk;obtain ⟨b',hb',hB,hG,hJ,hN,hown⟩:=xlp Sr hhg;rw [hφ] at hb';cases hb';obtain ⟨⟨cells,elem,hc,hfit⟩,hm⟩:=hB;obtain ⟨hlen,hflat⟩:=xju hm;obtain ⟨hrow,hone⟩:=xxx hc hflat;have hfl:=xgq hlen;have hszb:=xqr hc;have hlen':∀ e∈es.take n++xs,e.length=i.size:=fun e he=>(List.mem_append.1 he).elim (fun h=>hlen e (List.mem_of_mem_take h)) (hxl e)
   have hnl:news.length=xs.length*i.size:=hsrc.newsLen;have hns:n*i.size<=es.length*i.size:=Nat.mul_le_mul_right _ hb1;have hrow1:xae w G (es.take n).flatten (nu ν (flat && fx)) (ju J (flat && fx)) ((cells.toList.take es.flatten.length).take (n*i.size)):=by
    rw [xlg hlen];exact xhf _ (xhg xwo hrow)
   have hnews1:xae w G xs.flatten (nu ν (flat && fx)) (ju J (flat && fx)) news:=xhg xL8 hnews;have etake:(cells.toList.take es.flatten.length).take (n*i.size)=cells.toList.take (n*i.size):=by
    rw [List.take_take,Nat.min_eq_left (by rw [hfl];exact hns)]
   rw [etake] at hrow1;have hone1:∀ v∈cells.toList.take (n*i.size),v.oneCell'=true:=fun v hv=>hone v (by rw [<- etake] at hv;exact List.mem_of_mem_take hv)
   by_cases hcc:n+xs.length<=c
   ·have hfit2:0+n*i.size+news.length<=cells.size:=by
     rw [hszb] at hroom;have:(n+xs.length)*i.size<=c*i.size:=Nat.mul_le_mul_right _ hcc;rw [Nat.add_mul] at this;omega
    have hrun:=xte (P:=P) w t tx ty e i ht hi b 0 n c vx xs.length news hsrc hc hcc hfit2;simp only [Nat.zero_add] at hrun hfit2;obtain ⟨s1,e1⟩:=xX4 Sr hhg hφ hf hc (es:=es.take n++xs) (fl:=flat && fx) (vs:=cells.toList.take (n*i.size)++news)
     (cells:=(cells.toList.take (n*i.size)++news++cells.toList.drop (n*i.size+news.length)).toArray) hlen' (by rw [List.flatten_append];exact xcd hrow1 hnews1)
     (fun v hv=>(List.mem_append.1 hv).elim (hone1 v) (hsrc.one v)) (by simp [List.append_assoc]) (xtn hc (by simp;omega))
    refine ⟨_,_,ν.with at_ b,hrun,⟨rfl,s1,Names.with_le (.inl hf),rfl,?_,e1,?_⟩⟩
    ·simp only [Rel];exact ⟨b,0,c,Names.with_at ..,rfl,hcc,(fun _=>(Nat.zero_mul _).symm),(fun _ h=>by cases h),Nat.le_trans hroom (e1.sz b)⟩
    ·intro k hk';by_cases e:k=at_
     ·subst e;simp
     ·exact absurd (Names.with_other _ _ _ e) hk'
   ·have hold:(Builtin.firstCells i.size n (.slice (some ⟨b,0,none⟩) n c)).run P w.drew=.ok (cells.toList.take (n*i.size)).toArray w.drew:=by
     refine run_firstCells_some _ _ _ _ _ _ _ ?_ fun q u hq=>?_
     ·rw [List.length_take,Array.length_toList];exact Nat.min_eq_left (by omega)
     ·rw [xfx];have hq':cells[q]?=some u:=by
       rw [List.getElem?_take] at hq;split at hq
       ·simpa using hq
       ·cases hq
      show w.cell? _=_;simp [World.cell?,hc,hq']
    exact xp4 Sr (s:=s) (P:=P) (ups:=[(j,none)]) (h':=xb7 h j none) rfl (fun k B e=>by rw [xci] at e;split at e;cases e;exact e) (by rw [xeq];exact Nat.le_max_left _ _) hf (ty:=ty) ht hi hz hzl hold hsrc
     (by omega) hb2 hb3 (by rw [List.length_take];exact Nat.min_eq_left hb1) hlen' hrow1 hnews1 hone1
theorem xoq (w:World) (dT sT ty elem:TypeId) (i:TypeInfo) (hu:P.underlying dT=some (.slice elem)) (hi:P.info? elem=some i) {d:Option Addr} {dLen dCap n k:Nat} {x:Value} {cs:List Value}
    (hx:∀ w':World,(Builtin.lenOf x).run P w'=.ok n w') (hk:k=min n dLen) (hc:(Builtin.firstCells i.size k x).run P w=.ok cs.toArray w) {w':World}
    (hs:∀ a,d=some a->(storeCells a cs).run P w=.ok () w') (hd:d=none->w'=w) :
    (Builtin.copy_ #[dT,sT] ty #[.slice d dLen dCap,x]).run P w=.ok (goInt k) w':=by
 have hk':Nat.min n dLen=k:=hk.symm;cases d with
 | none=>simp [Builtin.copy_,run_underlying hu,hx,sizeOf,typeInfo,hi,hk',hc,hd rfl]
 | some a=>simp [Builtin.copy_,run_underlying hu,hx,sizeOf,typeInfo,hi,hk',hc,hs a rfl]
theorem xSm {C:Cfg} (Sr:SR w G J U N ν h) {S:Type} {s:S} {H:Option (Hd S)} {call:xb6} {look:Nat->Option Blk} (hl:∀ i B,look i=some B->xag h i=some B) {at_:Nat}
    {t tx ty e e':TypeId} {i:TypeInfo} (ht:P.underlying t=some (.slice e)) (hk:P.underlying tx=some (.slice e')) (hi:P.info? e=some i)
    {d x:AV} {vd vx:Value} (hd:Rel w G d ν J vd) (hx:Rel w G x ν J vx) {r:Res S} (hr:act C call H at_ look s (.copy d x i.size)=some r) :
    ∃ u w',(Builtin.copy_ #[t,tx] ty #[vd,vx]).run P w=.ok u w'/\Left w G J U N ν h at_ s r u w' ν:=by
 simp only [act] at hr;split at hr
 ·cases hr
 rename_i xs fx hxs;obtain ⟨news,hsrc,hnews,hxl,hfirst⟩:=xu8 Sr hl hx hxs hk (P:=P);cases d <;> simp only [reduceCtorEq] at hr
 case nils=>
  cases hr;simp only [Rel] at hd;subst hd;refine ⟨_,w,xoq w t tx ty e i ht hi hsrc.len (k:=0) (by simp) (cs:=[]) (by simpa using hfirst 0 (Nat.zero_le _)) (fun a h=>by cases h) (fun _=>rfl),xfg Sr (by simp only [Rel];rfl)⟩
 case sl j sj lo n cap=>
  simp only [Rel] at hd;obtain ⟨b,o,c,hφ,rfl,hn,ho,hcap,hroom⟩:=hd;split at hr
  case h_2=>cases hr
  rename_i s'' es flat hlk;split at hr
  case isFalse=>cases hr
  rename_i hb;obtain ⟨rfl,rfl,hle⟩:=hb;cases hr;have hhg:=hl _ _ hlk;obtain ⟨b',hb',hB,-⟩:=xlp Sr hhg;rw [hφ] at hb';cases hb';obtain ⟨⟨cells,elem,hc,hfit⟩,hm⟩:=hB;obtain ⟨hlen,hflat⟩:=xju hm;obtain ⟨hrow,hone⟩:=xxx hc hflat;have hfl:=xgq hlen;have hmin:min xs.length n<=xs.length:=Nat.min_le_left _ _;have hminn:min xs.length n<=n:=Nat.min_le_right _ _;generalize hk0:min xs.length n=k at *;have hnl:news.length=xs.length*i.size:=hsrc.newsLen;have hkl:(news.take (k*i.size)).length=k*i.size:=by
   rw [List.length_take,hnl];exact Nat.min_eq_left (Nat.mul_le_mul_right _ hmin)
  have hrow1:xae w G es.flatten (nu ν (flat && fx)) (ju J (flat && fx)) (cells.toList.take es.flatten.length):=xhg xwo hrow;have hnews1:xae w G xs.flatten (nu ν (flat && fx)) (ju J (flat && fx)) news:=xhg xL8 hnews;have hlok:lo*i.size+k*i.size<=es.length*i.size:=by rw [<- Nat.add_mul];exact Nat.mul_le_mul_right _ (by omega)
  have hrel:xae w G (es.take lo++xs.take k++es.drop (lo+k)).flatten (nu ν (flat && fx)) (ju J (flat && fx))
      ((cells.toList.take es.flatten.length).take (lo*i.size)++news.take (k*i.size)++(cells.toList.take es.flatten.length).drop ((lo+k)*i.size)):=by
   rw [List.flatten_append,List.flatten_append,xlg hlen,xlg hxl,xux hlen];exact xcd (xcd (xhf _ hrow1) (xhf _ hnews1)) (xjt _ hrow1)
  have hlen':∀ e∈es.take lo++xs.take k++es.drop (lo+k),e.length=i.size:=by
   intro e he;simp only [List.mem_append] at he;rcases he with (he | he) | he
   ·exact hlen e (List.mem_of_mem_take he)
   ·exact hxl e (List.mem_of_mem_take he)
   ·exact hlen e (List.mem_of_mem_drop he)
  have hone1:∀ v∈(cells.toList.take es.flatten.length).take (lo*i.size)++news.take (k*i.size)++(cells.toList.take es.flatten.length).drop ((lo+k)*i.size),v.oneCell'=true:=by
   intro v hv;simp only [List.mem_append] at hv;rcases hv with (hv | hv) | hv
   ·exact hone v (List.mem_of_mem_take hv)
   ·exact hsrc.one v (List.mem_of_mem_take hv)
   ·exact hone v (List.mem_of_mem_drop hv)
  have etake:(cells.toList.take es.flatten.length).take (lo*i.size)=cells.toList.take (lo*i.size):=by
   rw [List.take_take,Nat.min_eq_left (by rw [hfl];omega)]
  obtain ⟨s1,e1⟩:=xQt Sr hhg hφ hc (fl:=flat && fx) (cells:=(cells.toList.take (lo*i.size)++news.take (k*i.size)++cells.toList.drop (lo*i.size+(news.take (k*i.size)).length)).toArray) hlen' hrel hone1
   (by
    rw [etake,hkl,<- Nat.add_mul];simp only [List.append_assoc];refine (List.prefix_append_right_inj _).2 ((List.prefix_append_right_inj _).2 ?_);rw [List.drop_take];exact List.take_prefix _ _)
   (xtn hc (by simp;omega))
  have hstore:(storeCells ⟨b,o,none⟩ (news.take (k*i.size))).run P w=.ok () (w.setRow b (cells.toList.take (lo*i.size)++news.take (k*i.size)++cells.toList.drop (lo*i.size+(news.take (k*i.size)).length)).toArray):=by
   by_cases hn0:0<n
   ·have hst:=run_storeCells_at P b o elem (news.take (k*i.size)) 0 cells w hc (by rw [hkl,ho (.inl hn0)];omega) (fun v hv=>hsrc.one v (List.mem_of_mem_take hv));rw [Nat.add_zero,ho (.inl hn0)] at hst;rw [ho (.inl hn0)];exact hst
   ·have hk1:k=0:=by omega
    subst hk1;simp only [Nat.zero_mul,List.take_zero,List.append_nil,List.length_nil,Nat.add_zero,List.take_append_drop];rw [Array.toArray_toList,setRow_self w b cells elem (0,0) hc];simp [storeCells]
  refine ⟨_,_,xoq w t tx ty e i ht hi hsrc.len hk0.symm (hfirst k hmin) (fun a ha=>by cases ha;exact hstore) (fun h=>by cases h),xml Sr s1 e1 (by simp only [Rel];rfl)⟩
end
section
variable {w w':World} {G J U N:Nat->Prop} {ν ν':Names} {h:xap} {P:Program}
theorem xmn {t k e:TypeId} (h:xef P t=.map k e):P.underlying t=some (.map k e):=by
 unfold xef at h;repeat (split at h <;> try (first | (cases h;assumption) | (cases h;done)))
def xHn (v:Value):Prop:=(∃ k n,v=.int k n)\/∃ b,v=.bool b
theorem xu5:∀ {ks:List Bool} {xs ys:List AV} {vs us:List Value},xbl ks xs ys=some true->xae w G xs ν J vs->xae w G ys ν J us->vs=us/\∀ v∈vs,xHn v:=by
 intro ks;induction ks with
 | nil=>
   intro xs ys vs us he hx hy;cases xs <;> cases ys <;> simp only [xbl,reduceCtorEq] at he;simp only [xae] at hx hy;subst hx;subst hy;exact ⟨rfl,fun v hv=>by cases hv⟩
 | cons q ks ih=>
   intro xs ys vs us he hx hy;cases xs with
   | nil=>cases q <;> simp [xbl] at he
   | cons x xs=>
     cases ys with
     | nil=>cases q <;> cases x <;> simp [xbl] at he
     | cons y ys=>
       simp only [xae] at hx hy;obtain ⟨v,vs,rfl,hv,hvs⟩:=hx;obtain ⟨u,us,rfl,hu,hus⟩:=hy;cases q <;> cases x <;> cases y <;> simp only [xbl,reduceCtorEq] at he
       ·rename_i a b;cases hr:xbl ks xs ys with
        | none=>rw [hr] at he;simp at he
        | some r=>
          rw [hr] at he;simp only [Option.map_some,Option.some.injEq,Bool.and_eq_true,beq_iff_eq] at he;obtain ⟨rfl,rfl⟩:=he;obtain ⟨h1,h2⟩:=ih hr hvs hus;rw [xfr rfl hv,xfr rfl hu];exact ⟨by rw [h1],fun v hv=>by
           rcases List.mem_cons.1 hv with rfl | hv
           ·exact .inr ⟨_,rfl⟩
           ·exact h2 v hv⟩
       ·rename_i k a k' b;split at he
        case isFalse=>cases he
        rename_i hk;subst hk;cases hr:xbl ks xs ys with
        | none=>rw [hr] at he;simp at he
        | some r=>
          rw [hr] at he;simp only [Option.map_some,Option.some.injEq,Bool.and_eq_true,beq_iff_eq] at he;obtain ⟨rfl,rfl⟩:=he;obtain ⟨h1,h2⟩:=ih hr hvs hus;rw [xcr rfl hv,xcr rfl hu];exact ⟨by rw [h1],fun v hv=>by
           rcases List.mem_cons.1 hv with rfl | hv
           ·exact .inl ⟨_,_,rfl⟩
           ·exact h2 v hv⟩
theorem xIy:∀ {ks:List Bool} {xs:List AV} {r:Bool},xbl ks xs xs=some r->r=true:=by
 intro ks;induction ks with
 | nil=>
   intro xs r he;cases xs <;> simp only [xbl,reduceCtorEq,Option.some.injEq] at he;exact he.symm
 | cons q ks ih=>
   intro xs r he;cases xs with
   | nil=>cases q <;> simp [xbl] at he
   | cons x xs=>
     cases q <;> cases x <;> simp only [xbl,reduceCtorEq,if_true] at he
     all_goals
      cases hr:xbl ks xs xs with
      | none=>rw [hr] at he;simp at he
      | some r'=>
        rw [hr] at he;simp only [Option.map_some,Option.some.injEq,beq_self_eq_true,Bool.true_and] at he;rw [<- he];exact ih hr
theorem xqb (em:Bool) (n:Nat) (vs:Array Value):∀ (fs:List Field) (i:Nat) (ks:List Bool) (xs:List AV) (r:Bool),xdd P fs i=some ks->xae w G xs ν J (vs.toList.drop i)->xbl ks xs xs=some r ->
    (forIn fs PUnit.unit (fun f _=>do
     if f.name ≠ "_" then
      Instr.checkKey em (n+1) f.type (<- part f.type vs f.offset)
      pure (ForInStep.yield PUnit.unit)
     else pure (ForInStep.yield PUnit.unit)):Sem PUnit).run P w=.ok PUnit.unit w
 | [],_,_,_,_,_,_,_=>by simp
 | f :: fs, i,ks,xs,r,hp,hx,he=>by
   simp only [xdd] at hp;split at hp
   case isFalse=>cases hp
   rename_i hc;simp only [Bool.and_eq_true,bne_iff_ne,ne_eq,beq_iff_eq] at hc;obtain ⟨hn,ho⟩:=hc;have key:∀ (k:List Bool) (x:AV) (xs':List AV) (r':Bool) (dd:TypeDesc),P.underlying f.type=some dd->xeb P f.type=false->xdd P fs (i+1)=some k->xs=x::xs'->xbl k xs' xs'=some r' ->
       (∀ u,Rel w G x ν J u->(Instr.checkKey em (n+1) f.type u).run P w=.ok () w) ->
       (forIn (f::fs) PUnit.unit (fun f _=>do
        if f.name ≠ "_" then
         Instr.checkKey em (n+1) f.type (<- part f.type vs f.offset)
         pure (ForInStep.yield PUnit.unit)
        else pure (ForInStep.yield PUnit.unit)):Sem PUnit).run P w=.ok PUnit.unit w:=by
    rintro k x xs' r' dd hdd hagg hpk rfl hek hq
    simp only [xae] at hx;obtain ⟨u,us,eu,hxu,hxs⟩:=hx;have du:vs[i]?=some u:=by
     have:=congrArg (·[0]?) eu;simpa [List.getElem?_drop] using this
    have eu':vs.toList.drop (i+1)=us:=by rw [<- List.drop_drop,eu];rfl
    have pa:(part f.type vs f.offset).run P w=.ok u w:=by
     unfold part;rw [ho];simp only [Sem.run_bind,xh8 hdd,Result.andThen_ok,hagg,Bool.false_eq_true,if_false,du];rfl
    have ih:=xqb em n vs fs (i+1) k xs' r' hpk (by rw [eu'];exact hxs) hek;simp only [List.forIn_cons,Sem.run_bind,hn,ne_eq,not_false_eq_true,if_true,Result.andThen_ok,pa,hq u hxu,Sem.run_pure];exact ih
   split at hp
   ·rename_i kk e;cases hpk:xdd P fs (i+1) with
    | none=>rw [hpk] at hp;cases hp
    | some k =>
      rw [hpk] at hp;simp only [Option.map_some,Option.some.injEq] at hp;subst hp;cases xs with
      | nil=>simp [xbl] at he
      | cons x xs=>
        cases x <;> simp only [xbl,reduceCtorEq,if_true] at he;cases hr:xbl k xs xs with
        | none=>rw [hr] at he;simp at he
        | some r'=>
          exact key k _ xs r' _ e (by simp [xeb,e]) hpk rfl hr fun u hu=>by
           rw [xcr rfl hu];unfold Instr.checkKey;simp [run_underlying e]
   ·rename_i e;cases hpk:xdd P fs (i+1) with
    | none=>rw [hpk] at hp;cases hp
    | some k =>
      rw [hpk] at hp;simp only [Option.map_some,Option.some.injEq] at hp;subst hp;cases xs with
      | nil=>simp [xbl] at he
      | cons x xs=>
        cases x <;> simp only [xbl,reduceCtorEq] at he;cases hr:xbl k xs xs with
        | none=>rw [hr] at he;simp at he
        | some r'=>
          exact key k _ xs r' _ e (by simp [xeb,e]) hpk rfl hr fun u hu=>by
           rw [xfr rfl hu];unfold Instr.checkKey;simp [run_underlying e]
   ·cases hp
theorem xmh {v:Value} (h:xHn v) (n:Nat):Instr.sameBits n v v=true:=by
 rcases h with ⟨k,m,rfl⟩ | ⟨b,rfl⟩ <;> simp [Instr.sameBits]
theorem xtf (f:Value->Value->Bool):∀ (l:List Value),(∀ v∈l,f v v=true)->((l.zip l).all fun (x,y)=>f x y)=true
 | [],_=>rfl
 | v :: l,h=>by
   simp only [List.zip_cons_cons,List.all_cons,Bool.and_eq_true];exact ⟨h v List.mem_cons_self,xtf f l fun v hv=>h v (List.mem_cons_of_mem _ hv)⟩
theorem xmo {kt:TypeId} {T:Option Ty} (hT:∀ T',T=some T'->xcc P kt=some T') {c:AV} {key:Value} {r:Bool} (h:eqK T c c=some r) (hc:Rel w G c ν J key) :
    r = true/\(∀ em,(Instr.checkKey em 10000 kt key).run P w=.ok () w)/\Instr.sameBits 10000 key key=true:=by
 cases c with
 | int k a=>
   simp only [eqK] at h;split at h
   ·obtain ⟨i,d,_,hu,hk,_⟩:=xbj (hT _ rfl);have hd:=xsi hk.symm;simp only [if_true,beq_self_eq_true,Option.some.injEq] at h;rw [xcr rfl hc];exact ⟨h.symm,fun em=>by unfold Instr.checkKey;simp [run_underlying hd],xmh (.inl ⟨_,_,rfl⟩) _⟩
   ·cases h
 | bool a=>
   simp only [eqK] at h;split at h
   ·obtain ⟨i,d,_,hu,hk,_⟩:=xbj (hT _ rfl);have hd:=xum hk.symm;simp only [beq_self_eq_true,Option.some.injEq] at h;rw [xfr rfl hc];exact ⟨h.symm,fun em=>by unfold Instr.checkKey;simp [run_underlying hd],xmh (.inr ⟨_,rfl⟩) _⟩
   ·cases h
 | agg xs=>
   simp only [eqK] at h;split at h
   ·rename_i ks;obtain ⟨i,d,_,hu,hk,_,_,_,_,he⟩:=xbj (hT _ rfl);have hr:=xIy h;subst hr;simp only [Rel] at hc;obtain ⟨vs,rfl,hc⟩:=hc;obtain ⟨-,hpl⟩:=xu5 h hc hc;unfold xy0 at he;simp only at he;split at he
    ·rename_i fs hfs;split at he
     ·refine ⟨rfl,fun em=>?_,?_⟩
      ·rw [show (10000:Nat)=9998+1+1 from rfl,Instr.checkKey];simp only [Sem.run_bind,run_underlying hfs,Result.andThen_ok];rw [<- Array.forIn_toList];have h9:=xqb (P:=P) (w:=w) em 9998 vs.toArray fs.toList 0 ks xs true he.symm (by simpa using hc) h;simp at h9 ⊢;rw [h9];rfl
      ·show (vs.toArray.size == vs.toArray.size && (vs.toArray.toList.zip vs.toArray.toList).all fun (x,y)=>Instr.sameBits 9999 x y)=true;rw [beq_self_eq_true,Bool.true_and];exact xtf _ _ fun v hv=>xmh (hpl v hv) _
     ·cases he
    ·cases he
   ·cases h
 | _=>simp [eqK] at h
theorem xAn {kt:TypeId} {T:Option Ty} (hT:∀ T',T=some T'->xcc P kt=some T') {c d:AV} {key old:Value} {r:Bool} (h:eqK T c d=some r) (hc:Rel w G c ν J key) (hd:Rel w G d ν J old) :
    (r=true->key=old)/\(Op.equal kt key old).run P w=.ok r w/\∀ D,P.underlying kt=some D->Instr.sameNow D key old=some r\/Instr.sameNow D key old=none:=by
 unfold eqK at h;split at h
 ·rename_i k a k' b;split at h
  ·obtain ⟨i,d,_,hu,hk,_⟩:=xbj (hT _ rfl);have hd':=xsi hk.symm;split at h
   case isFalse=>cases h
   rename_i hkk;subst hkk;cases h;rw [xcr rfl hc,xcr rfl hd];refine ⟨fun e=>by simp at e;rw [e],run_equalIn_int w 9999 kt k _ a b hd',fun D hD=>?_⟩;rw [hd'] at hD;cases hD;exact .inl (by simp [Instr.sameNow])
  ·cases h
 ·rename_i a b;split at h
  ·obtain ⟨i,d,_,hu,hk,_⟩:=xbj (hT _ rfl);have hd':=xum hk.symm;cases h;rw [xfr rfl hc,xfr rfl hd];refine ⟨fun e=>by simp at e;rw [e],run_equalIn_bool' w 9999 kt a b hd',fun D hD=>?_⟩;rw [hd'] at hD;cases hD;exact .inl (by simp [Instr.sameNow])
  ·cases h
 ·rename_i xs ys;split at h
  ·rename_i kd1 agg1 size1 bytes1 zero1 ks;obtain ⟨-,h2,-⟩:=xCo (T:=some { kind:=.struct kd1,agg:=agg1,size:=size1,bytes:=bytes1,zero:=zero1,eqOk:=some ks }) hT (show eqA _ (.agg xs) (.agg ys)=some r from h) hc hd (.const key) (.const old) .eql;simp only [Rel] at hc hd;obtain ⟨vs,rfl,hc⟩:=hc;obtain ⟨us,rfl,hd⟩:=hd;refine ⟨fun e=>?_,h2,fun D _=>.inr (by cases D <;> simp [Instr.sameNow])⟩;subst e;rw [(xu5 h hc hd).1]
  ·cases h
 ·cases h
theorem xrk {kt:TypeId} {T:Option Ty} (hT:∀ T',T=some T'->xcc P kt=some T') {c:AV} {key:Value} (hc:Rel w G c ν J key):∀ {kvs:List (AV×AV)} {es:List MapEntry} {i:Nat} {r:Option (Nat×AV)},xgx w G ν J kvs es->xgv T c kvs i=some r ->
    ∃ q : Option (Nat×Value),(Instr.findAsking kt key es i).run P w=.ok q w/\(match r,q with
      | none,none=>True
      | some p,some p'=>p.1=p'.1/\i<=p.1/\Rel w G p.2 ν J p'.2/\(∃ kv,kvs[p.1 - i]?=some kv/\kv.2=p.2)/\∃ e,es[p.1 - i]?=some e/\e.key=key
      | _,_=>False)
 | [],es,i,r,hr,hf=>by
   have hr:es=[]:=hr;subst hr;simp only [xgv,Option.some.injEq] at hf;subst hf;exact ⟨none,by simp [Instr.findAsking],trivial⟩
 | p :: kvs,es,i,r,hr,hf=>by
   obtain ⟨e,es',rfl,h1,h2,h3⟩:=hr;simp only [xgv] at hf;split at hf
   ·rename_i he;cases hf;obtain ⟨k1,k2,-⟩:=xAn hT he hc h1;exact ⟨some (i,e.val),by simp [Instr.findAsking,k2],rfl,Nat.le_refl _,h2,⟨p,by simp,rfl⟩,e,by simp,(k1 rfl).symm⟩
   ·rename_i he;obtain ⟨-,k2,-⟩:=xAn hT he hc h1;obtain ⟨q,hq,hm⟩:=xrk hT hc h3 hf;refine ⟨q,by simp [Instr.findAsking,k2,hq],?_⟩
    revert hm
    cases r with
    | none=>cases q <;> exact fun h=>h
    | some p1=>
      cases q with
      | none=>exact fun h=>h
      | some p2=>
        rintro ⟨m1,m2,m3,⟨kv,m4,m5⟩,e',m6,m7⟩
        refine ⟨m1,by omega,m3,⟨kv,?_,m5⟩,e',?_,m7⟩
        ·rw [show p1.1 - i=(p1.1 - (i+1))+1 by omega,List.getElem?_cons_succ];exact m4
        ·rw [show p1.1 - i=(p1.1 - (i+1))+1 by omega,List.getElem?_cons_succ];exact m6
   ·cases hf
theorem xrj {kt:TypeId} {T:Option Ty} (hT:∀ T',T=some T'->xcc P kt=some T') {D:TypeDesc} (hD:P.underlying kt=some D) {c:AV} {key:Value} (hc:Rel w G c ν J key):∀ {kvs:List (AV×AV)} {es:List MapEntry} {i:Nat} {r:Option (Nat×AV)} {q:Option (Nat×Value)},
    xgx w G ν J kvs es->xgv T c kvs i=some r->Instr.findNow D key es i=some q->(Instr.findAsking kt key es i).run P w=.ok q w
 | [],es,i,r,q,hr,hf,hn=>by
   have hr:es=[]:=hr;subst hr;simp only [Instr.findNow,Option.some.injEq] at hn;subst hn;simp [Instr.findAsking]
 | p :: kvs,es,i,r,q,hr,hf,hn=>by
   obtain ⟨e,es',rfl,h1,h2,h3⟩:=hr;simp only [xgv] at hf;split at hf
   ·rename_i he;obtain ⟨-,k2,k3⟩:=xAn hT he hc h1;simp only [Instr.findNow] at hn;rcases k3 D hD with k | k
    ·rw [k] at hn;simp only [Option.some.injEq] at hn;subst hn;simp [Instr.findAsking,k2]
    ·rw [k] at hn;cases hn
   ·rename_i he;obtain ⟨-,k2,k3⟩:=xAn hT he hc h1;simp only [Instr.findNow] at hn;rcases k3 D hD with k | k
    ·rw [k] at hn;simp only at hn;have:=xrj hT hD hc h3 hf hn;simp [Instr.findAsking,k2,this]
    ·rw [k] at hn;cases hn
   ·cases hf
theorem xi0 {kt:TypeId} {T:Option Ty} (hT:∀ T',T=some T'->xcc P kt=some T') {c:AV} {key:Value} {b:Bool} (hk:eqK T c c=some b) (hc:Rel w G c ν J key) {kvs:List (AV×AV)} {es:List MapEntry} {r:Option (Nat×AV)} (hr:xgx w G ν J kvs es) (hf:xgv T c kvs 0=some r) :
    ∃ q : Option (Nat×Value),(Instr.findKey kt key es).run P w=.ok q w/\(match r,q with
      | none,none=>True
      | some p,some p'=>p.1=p'.1/\Rel w G p.2 ν J p'.2/\(∃ kv,kvs[p.1]?=some kv/\kv.2=p.2)/\∃ e,es[p.1]?=some e/\e.key=key
      | _,_=>False):=by
 obtain ⟨D,hD⟩:∃ D,P.underlying kt=some D:=by
  unfold eqK at hk
  repeat' (split at hk)
  all_goals first
   | (cases hk;done)
   | (obtain ⟨i,d,_,hu,_⟩:=xbj (hT _ rfl);exact ⟨d,hu⟩)
 obtain ⟨q,hq,hm⟩:=xrk hT hc hr hf;refine ⟨q,?_,?_⟩
 ·unfold Instr.findKey;simp only [Sem.run_bind,run_underlying hD,Result.andThen_ok];cases hn:Instr.findNow D key es 0 with
  | none=>exact hq
  | some q'=>
    have:=xrj hT hD hc hr hf hn;rw [hq] at this;cases this;rfl
 ·revert hm
  cases r with
  | none=>cases q <;> exact fun h=>h
  | some p1=>
    cases q with
    | none=>exact fun h=>h
    | some p2=>
      rintro ⟨m1,-,m3,m4,m5⟩
      exact ⟨m1,m3,by simpa using m4,by simpa using m5⟩
def xlu (w:World) (b:Nat) (o:Obj):World:={ w with heap:=w.heap.setIfInBounds b o }
theorem xDn {b:Nat} {o o':Obj} (hb:w.heap[b]?=some o):(xlu w b o').heap[b]?=some o':=(MapKept.heap_set hb).1
theorem xzy {b b':Nat} {o':Obj} (hne:b'≠b):(xlu w b o').heap[b']?=w.heap[b']?:=by
 unfold xlu;simp [Ne.symm hne]
theorem xDm (b:Nat) (o:Obj):(xlu w b o).heap.size=w.heap.size:=by simp [xlu]
theorem xX2 {b:Nat} {es es':Array MapEntry} {c c':Nat} (hb:w.heap[b]?=some (.map es c)):∀ b',xbq w b'<=xbq (xlu w b (.map es' c')) b':=fun b'=>by
 by_cases e:b'=b
 ·subst e;rw [xbq,xbq,hb,xDn hb];exact Nat.le_refl _
 ·rw [xbq,xbq,xzy e];exact Nat.le_refl _
theorem xze (S:SR w G J U N ν h) {i:Nat} {kvs0 kvs:List (AV×AV)} (hi:xag h i=some (.map kvs0)) {b:Nat} (hb:ν.φ i=some b) {es0 es:Array MapEntry} {c0 c:Nat} (hc:w.heap[b]?=some (.map es0 c0)) (hr:xgx w G ν J kvs es.toList) :
    SR (xlu w b (.map es c)) G J U N ν (xb7 h i (some (.map kvs)))/\Ext w (xlu w b (.map es c)) G G U U N N (Own ν h) (Own ν (xb7 h i (some (.map kvs)))):=by
 obtain ⟨b',hb',_,hG,hJ,hN,ho⟩:=xlp S hi;rw [hb] at hb';cases hb';have hk:∀ b',b'≠b->(xlu w b (.map es c)).heap[b']?=w.heap[b']?:=fun b' hne=>xzy hne
 have hs:=xX2 (es':=es) (c':=c) hc;have hB:xev (xlu w b (.map es c)) G ν J b (.map kvs):=
  ⟨es,c,xDn hc,xs4 (fun x v hx=>xdb (fun _ h=>h) (fun c' hgj=>hk c' (fun e=>by subst e;exact hG hgj)) hs x (Names.le_refl _) (fun _ h=>.inl h) (fun c' hj=>hk c' (fun e=>by subst e;exact hJ hj)) hx) hr⟩
 refine ⟨S.put (by rw [xDm];exact Nat.le_refl _) hs (fun b' _ hne=>hk b' hne) hG hJ hN (fun j B hj hB' e=>hj (S.inj j i _ _ b hB' hi e hb)) (Names.le_refl _) hb (fun _ _=>rfl) hB,?_⟩;exact ⟨by rw [xDm];exact Nat.le_refl _,fun c _ hc _=>hk c (fun e=>hc (e ▸ ho)),fun c hc=>(xwr hb (fun _ _=>rfl) hc).elim (fun e=>.inl (e ▸ ho)) .inl,fun _ h=>.inl h,fun _ h=>.inl h,fun _ h=>h,fun _ h=>.inl h,hs,rfl,rfl⟩
theorem xRm (Sr:SR w G J U N ν h) {S:Type} {s:S} {at_:Nat} (hf:ν.φ at_=none) :
    Left w G J U N ν h at_ s ⟨.mp at_,[],[some (.map [])],s⟩ (.map (some w.heap.size)) (w.alloc (.map #[] 0)) (ν.with at_ w.heap.size):=by
 obtain ⟨h1,h2⟩:=Sr.alloc (o:=.map #[] 0) hf (B:=.map []) ⟨#[],0,xeo _ _,rfl⟩;refine xyc Sr hf h1 h2 ?_;simp only [Rel];exact ⟨_,Names.with_at ..,rfl⟩
theorem xvp (Sr:SR w G J U N ν h) {i:Nat} {kvs:List (AV×AV)} (hi:xag h i=some (.map kvs)) {v:Value} (hv:Rel w G (.mp i) ν J v) :
    ∃ b es c,ν.φ i=some b/\v=.map (some b)/\w.heap[b]?=some (.map es c)/\xgx w G ν J kvs es.toList:=by
 obtain ⟨b,hb,⟨es,c,h1,h2⟩,_⟩:=xlp Sr hi;simp only [Rel] at hv;obtain ⟨b',hb',rfl⟩:=hv;rw [hb] at hb';cases hb';exact ⟨b,es,c,hb,rfl,h1,h2⟩
theorem xRo {C:Cfg} (Sr:SR w G J U N ν h) {S:Type} {s:S} {H:Option (Hd S)} {call:xb6} {look:Nat->Option Blk} {at_:Nat} (hl:∀ i B,look i=some B->xag h i=some B) {t k e:TypeId} (ht:P.underlying t=some (.map k e))
    {i:Nat} {v:Value} (hv:Rel w G (.mp i) ν J v) {r:Res S} (ha:act C call H at_ look s (.mlen i)=some r) (ty:TypeId) :
    ∃ u,(Builtin.len_ #[t] ty #[v]).run P w=.ok u w/\Left w G J U N ν h at_ s r u w ν:=by
 simp only [act] at ha;split at ha
 case h_2=>cases ha
 rename_i kvs hlk;cases ha;obtain ⟨b,es,c,hb,rfl,h1,h2⟩:=xvp Sr (hl _ _ hlk) hv;have hlen:=xEw h2;refine ⟨.int .i64 (es.size:Nat),?_,xfg Sr (by rw [hlen];simp only [Array.length_toList,Rel])⟩;simp [Builtin.len_,Sem.run_bind,run_underlying ht,MapKept.run_getObj_map h1,goInt]
theorem xRp {C:Cfg} (Sr:SR w G J U N ν h) {S:Type} {s:S} {H:Option (Hd S)} {call:xb6} {look:Nat->Option Blk} {at_:Nat} (hl:∀ i B,look i=some B->xag h i=some B) {t kt e:TypeId} (ht:P.underlying t=some (.map kt e))
    {T:Option Ty} (hT:∀ T',T=some T'->xcc P kt=some T') {i:Nat} {v key:Value} (hv:Rel w G (.mp i) ν J v) {c z:AV} (hz:xvj P e=some z) (hc:Rel w G c ν J key) {ok:Bool} {r:Res S} (ha:act C call H at_ look s (.mget i T c z ok)=some r) :
    ∃ u,(Instr.lookup t v key ok).run P w=.ok u w/\Left w G J U N ν h at_ s r u w ν:=by
 simp only [act] at ha;split at ha
 case h_2=>cases ha
 rename_i kvs hlk;obtain ⟨b,es,cl,hb,rfl,h1,h2⟩:=xvp Sr (hl _ _ hlk) hv;obtain ⟨z0,hz0,hzr⟩:∃ z0,(zeroValue e).run P w=.ok z0 w/\Rel w G z ν J z0:=by
  unfold xvj at hz;split at hz
  case h_2=>cases hz
  rename_i ie hie;split at hz
  ·cases hz
  ·rename_i v0 _ hv0;cases hz;exact ⟨v0,xtb hie hv0,xvd w G ν J v0⟩
  ·cases hz
 split at ha
 ·rename_i p hk hf;cases ha;obtain ⟨-,k1,-⟩:=xmo hT hk hc;obtain ⟨q,hq,hm⟩:=xi0 hT hk hc h2 hf;cases q with
  | none=>exact hm.elim
  | some q=>
    obtain ⟨m1,m2,-⟩:=hm;refine ⟨if ok then .tuple #[q.2,.bool true] else q.2,?_,xfg Sr ?_⟩
    ·cases ok <;> simp [Instr.lookup,Sem.run_bind,run_underlying ht,MapKept.run_getObj_map h1,k1,hq]
    ·cases ok with
     | true=>
       simp only [if_true,Rel];exact ⟨[q.2,.bool true],rfl,xa6 m2 (xa6 (by simp only [Rel]) xbh)⟩
     | false=>exact m2
 ·rename_i hk hf;cases ha;obtain ⟨-,k1,-⟩:=xmo hT hk hc;obtain ⟨q,hq,hm⟩:=xi0 hT hk hc h2 hf;cases q with
  | some q=>exact hm.elim
  | none =>
    refine ⟨if ok then .tuple #[z0,.bool false] else z0,?_,xfg Sr ?_⟩
    ·cases ok <;> simp [Instr.lookup,Sem.run_bind,run_underlying ht,MapKept.run_getObj_map h1,k1,hq,hz0]
    ·cases ok with
     | true=>
       simp only [if_true,Rel];exact ⟨[z0,.bool false],rfl,xa6 hzr (xa6 (by simp only [Rel]) xbh)⟩
     | false=>exact hzr
 ·cases ha
theorem xD3 {C:Cfg} (Sr:SR w G J U N ν h) {S:Type} {s:S} {H:Option (Hd S)} {call:xb6} {look:Nat->Option Blk} {at_:Nat} (hl:∀ i B,look i=some B->xag h i=some B) {t kt e:TypeId} (ht:P.underlying t=some (.map kt e))
    {T:Option Ty} (hT:∀ T',T=some T'->xcc P kt=some T') {i:Nat} {v key x:Value} (hv:Rel w G (.mp i) ν J v) {c d:AV} (hc:Rel w G c ν J key) (hd:Rel w G d ν J x) {r:Res S} (ha:act C call H at_ look s (.mset i T c d)=some r) :
    ∃ w',(Instr.mapUpdate t v key x).run P w=.ok () w'/\Left w G J U N ν h at_ s r undef w' ν:=by
 simp only [act] at ha;split at ha
 case h_2=>cases ha
 rename_i kvs hlk;obtain ⟨b,es,cl,hb,rfl,h1,h2⟩:=xvp Sr (hl _ _ hlk) hv;split at ha
 ·rename_i p hk hf;cases ha;obtain ⟨-,k1,k2⟩:=xmo hT hk hc;obtain ⟨q,hq,hm⟩:=xi0 hT hk hc h2 hf;cases q with
  | none=>exact hm.elim
  | some q=>
    obtain ⟨m1,m2,-,e',m3,m4⟩:=hm;have m3':es[p.1]?=some e':=by simpa using m3
    obtain ⟨s1,s2⟩:=xze Sr (hl _ _ hlk) hb (kvs:=kvs.set p.1 (c,d)) (es:=es.modify p.1 fun y=>{ y with key:=key,val:=x }) (c:=cl) h1 (by
     rw [Array.toList_modify];exact xEv h2 fun _ _=>⟨hc,hd⟩)
    refine ⟨_,?_,xml Sr s1 s2 (by simp only [Rel])⟩;have hkt:(Instr.keyThatStays key key).run P w=.ok key w:=by simp [Instr.keyThatStays,k2]
    simp [Instr.mapUpdate,Sem.run_bind,run_underlying ht,MapKept.run_getObj_map h1,k1,hq,<- m1,m3',m4,hkt,MapKept.run_setObj_map _ h1,xlu]
 ·rename_i hk hf;cases ha;obtain ⟨-,k1,-⟩:=xmo hT hk hc;obtain ⟨q,hq,hm⟩:=xi0 hT hk hc h2 hf;cases q with
  | some q=>exact hm.elim
  | none=>
    obtain ⟨s1,s2⟩:=xze Sr (hl _ _ hlk) hb (kvs:=kvs++[(c,d)]) (es:=es.push { key:=key,val:=x,born:=cl }) (c:=cl+1) h1 (by
     rw [Array.toList_push];exact xEy h2 hc hd)
    refine ⟨_,?_,xml Sr s1 s2 (by simp only [Rel])⟩;simp [Instr.mapUpdate,Sem.run_bind,run_underlying ht,MapKept.run_getObj_map h1,k1,hq,MapKept.run_setObj_map _ h1,xlu]
 ·cases ha
theorem xRq {C:Cfg} (Sr:SR w G J U N ν h) {S:Type} {s:S} {H:Option (Hd S)} {call:xb6} {look:Nat->Option Blk} {at_:Nat} (hl:∀ i B,look i=some B->xag h i=some B) {t kt e:TypeId} (ht:P.underlying t=some (.map kt e))
    {T:Option Ty} (hT:∀ T',T=some T'->xcc P kt=some T') {i:Nat} {v key:Value} (hv:Rel w G (.mp i) ν J v) {c:AV} (hc:Rel w G c ν J key) {r:Res S} (ha:act C call H at_ look s (.mdel i T c)=some r) (ts:List TypeId) (ty:TypeId) :
    ∃ u w',(Builtin.delete_ (t::ts).toArray ty #[v,key]).run P w=.ok u w'/\Left w G J U N ν h at_ s r u w' ν:=by
 simp only [act] at ha;split at ha
 case h_2=>cases ha
 rename_i kvs hlk;obtain ⟨b,es,cl,hb,rfl,h1,h2⟩:=xvp Sr (hl _ _ hlk) hv;split at ha
 ·rename_i p hk hf;cases ha;obtain ⟨-,k1,-⟩:=xmo hT hk hc;obtain ⟨q,hq,hm⟩:=xi0 hT hk hc h2 hf;cases q with
  | none=>exact hm.elim
  | some q=>
    obtain ⟨m1,m2,-,e',m3,m4⟩:=hm;obtain ⟨s1,s2⟩:=xze Sr (hl _ _ hlk) hb (kvs:=kvs.eraseIdx p.1) (es:=es.eraseIdxIfInBounds p.1) (c:=cl) h1 (by
     rw [Array.toList_eraseIdxIfInBounds];exact xxe h2)
    refine ⟨.tuple #[],_,?_,xml Sr s1 s2 (by simp only [Rel];exact ⟨[],rfl,xbh⟩)⟩;simp [Builtin.delete_,Sem.run_bind,run_underlying ht,MapKept.run_getObj_map h1,k1,hq,<- m1,MapKept.run_setObj_map _ h1,xlu]
 ·rename_i hk hf;cases ha;obtain ⟨-,k1,-⟩:=xmo hT hk hc;obtain ⟨q,hq,hm⟩:=xi0 hT hk hc h2 hf;cases q with
  | some q=>exact hm.elim
  | none=>
    obtain ⟨s1,s2⟩:=xze Sr (hl _ _ hlk) hb (kvs:=kvs) (es:=es) (c:=cl) h1 h2;refine ⟨.tuple #[],_,?_,xml Sr s1 s2 (by simp only [Rel];exact ⟨[],rfl,xbh⟩)⟩;simp [Builtin.delete_,Sem.run_bind,run_underlying ht,MapKept.run_getObj_map h1,k1,hq,MapKept.run_setObj_map _ h1,xlu]
 ·cases ha
end
end Go.Lite
