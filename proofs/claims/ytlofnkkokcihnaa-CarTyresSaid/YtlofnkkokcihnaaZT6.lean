/-
 What the claim car_tyres rests on,part 6.
-/
import Derived.Test.YtlofnkkokcihnaaZT5
import Derived.Test.YtlofnkkokcihnaaProg
namespace Go.Proofs.Ytlofnkkokcihnaa
open Go.Lite
def annL:List (Nat × Nat × List Nat):=
 [(8,11,[0,1,3,4,5,13,14,16,17]),
  (8,27,[4,14,19]),
  (13,10,[3,6,8]),
  (14,8,[0,1,5,8,9,11]),
  (14,11,[0,1,5,8,9,11,12]),
  (14,16,[0,1,5,8,13]),
  (14,23,[0,14]),
  (14,28,[0,14,15,16]),
  (15,4,[1,3]),
  (15,9,[1,4]),
  (18,5,[1,3,4]),
  (20,4,[0,1,5]),
  (20,9,[1,6]),
  (21,8,[3,4,6,7,8,9,29]),
  (21,10,[3,4,6,7,8,9,10,11,12,29,34,35]),
  (21,14,[3,4,6,7,8,9,10,11,12,13,14,29,34,35,38,39,40]),
  (22,4,[0,1,7]),
  (22,9,[0,1,8]),
  (23,4,[0,1,2,6,8,9,10,11]),
  (24,4,[0,1,5]),
  (25,8,[0,1,2,3,10,11,12,13,34,35,36]),
  (25,15,[0,1,2,3,10,11,16]),
  (25,21,[0,1,2,3,17,18,81,82,83]),
  (26,4,[3,9]),
  (27,3,[0,1,2,3,10,11]),
  (27,7,[0,1,2,3,10,11,12,13]),
  (27,11,[0,1,2,3,10,11,12,14]),
  (27,16,[0,1,2,3,10,11,12,14,15,16,17]),
  (28,2,[0,3]),
  (29,6,[0,1,6,7,22,23]),
  (30,4,[0,5]),
  (30,9,[0,5,6]),
  (31,4,[0,1,6,7,8]),
  (31,8,[0,1,6,7,8,9,10]),
  (32,4,[0,1,2,3,4,26,27,28]),
  (33,5,[0,1,3,4,11,12,13]),
  (34,3,[0,3,4]),
  (37,2,[0,1,5]),
  (38,3,[1,2,3,8,9]),
  (39,3,[1,2,5,6]),
  (40,5,[0,1,7,10,39,40,41]),
  (40,15,[0,1,7,13,60,61,62]),
  (41,4,[0,1,7,10]),
  (41,11,[0,1,7,11,12,13,14]),
  (42,4,[0,16,17,18]),
  (42,11,[0,7,68]),
  (42,17,[7,9,82,83,84]),
  (43,4,[0,3]),
  (44,4,[0,4,5,6,7]),
  (44,8,[0,4,5,6,8]),
  (49,4,[0,1,5]),
  (49,9,[0,1,5,6]),
  (51,4,[0,1,5]),
  (54,3,[2,3,4,10,11,17,18,19]),
  (55,3,[1,4,5,12,13,14]),
  (57,3,[0,1,2,7,8]),
  (57,8,[0,1,2,7,8,9,10,11]),
  (57,11,[0,1,2,7,8,9,10,11,12]),
  (59,3,[0,1,4,11,12,17,18,19]),
  (60,2,[0,7,8,9]),
  (60,7,[0,3,4,7,8,9,25,26,27]),
  (62,2,[0,1,9,10,11]),
  (63,3,[0,3,4]),
  (64,3,[1,2,9,10,15,16,17]),
  (64,9,[1,2,9,10,12,15,16,17,30,31,32]),
  (65,3,[1,4,5,12,13,14]),
  (66,3,[0,1,2,7,8]),
  (66,10,[0,1,2,7,8,9,10]),
  (66,15,[0,1,2,7,11]),
  (67,3,[0,1,6,7,8]),
  (68,2,[0,1,5]),
  (70,3,[2,3,9,10,13,14,15]),
  (73,7,[0,1,9,10]),
  (75,2,[0,5,6,7]),
  (79,7,[2,9,10]),
  (85,4,[0,1,5,21,22]),
  (86,3,[0,1,5,6]),
  (86,7,[0,1,5,6,7,8]),
  (86,10,[0,1,5,6,7,8,9]),
  (90,2,[0,1,5]),
  (98,2,[0,1,7,8]),
  (99,2,[0,1,7,8]),
  (100,2,[0,1,7,8]),
  (101,2,[0,1,7,8]),
  (102,2,[0,1,7,8]),
  (104,2,[0,1,7,8])]
def annXL:List (Nat × Nat × Option Nat × List Nat):=
 [(8,11,some 0,[4,13,14]),
  (8,11,none,[12]),
  (8,27,some 2,[]),
  (8,27,none,[12]),
  (13,10,some 0,[]),
  (13,10,none,[2]),
  (14,8,some 0,[0,1,5,8]),
  (14,8,none,[4]),
  (14,11,some 2,[0,1,5,8,9,11]),
  (14,11,none,[4]),
  (14,16,some 4,[0,5]),
  (14,16,none,[4]),
  (14,23,some 6,[]),
  (14,23,none,[4]),
  (14,28,some 8,[0,14,15]),
  (14,28,none,[4]),
  (15,4,some 0,[1]),
  (15,4,none,[2]),
  (15,9,some 2,[]),
  (15,9,none,[2]),
  (18,5,some 0,[]),
  (18,5,none,[2]),
  (20,4,some 0,[1]),
  (20,4,none,[4]),
  (20,9,some 2,[]),
  (20,9,none,[4]),
  (21,10,some 1,[3,4,6,7,8,9,29]),
  (21,10,some 2,[3,4,6,7,8,9,11,12,29]),
  (21,10,none,[6,7]),
  (21,14,some 4,[3,4,6,7,8,9,10,11,12,14,29,34,35]),
  (21,14,none,[6,7]),
  (22,4,some 0,[0,1]),
  (22,4,none,[6]),
  (22,9,some 2,[]),
  (22,9,none,[6]),
  (23,4,some 0,[6,9,10]),
  (23,4,none,[6,7]),
  (24,4,some 0,[]),
  (24,4,none,[4]),
  (25,8,some 0,[0,1,2,3,10,11]),
  (25,8,none,[8,9]),
  (25,15,some 2,[0,1,2,3,10,11]),
  (25,15,none,[8,9]),
  (25,21,some 4,[0,1,2,3,17]),
  (25,21,none,[8,9]),
  (26,4,some 0,[]),
  (26,4,none,[8]),
  (27,3,some 0,[0,1,2,3,10]),
  (27,3,none,[8,9]),
  (27,7,some 2,[0,1,2,3,10,11,12]),
  (27,7,none,[8,9]),
  (27,11,some 4,[0,1,2,3,10,11,12]),
  (27,11,none,[8,9]),
  (27,16,some 6,[0,1,2,3,10,11,12,14,15]),
  (27,16,none,[8,9]),
  (28,2,some 0,[0]),
  (28,2,none,[2]),
  (29,6,some 0,[7]),
  (29,6,none,[4,5]),
  (30,4,some 0,[]),
  (30,4,none,[4]),
  (30,9,some 2,[0,5]),
  (30,9,none,[4]),
  (31,4,some 0,[6,7]),
  (31,4,none,[4,5]),
  (31,8,some 2,[0,1,6,7,8,9]),
  (31,8,none,[4,5]),
  (32,4,some 0,[0,1,2,3,4]),
  (32,4,none,[10]),
  (33,5,some 0,[]),
  (33,5,none,[10]),
  (34,3,some 0,[3]),
  (34,3,none,[2]),
  (37,2,some 0,[0]),
  (37,2,none,[4]),
  (38,3,some 0,[2,8]),
  (38,3,none,[6,7]),
  (39,3,some 0,[5]),
  (39,3,none,[4]),
  (40,5,some 0,[0,1,7,10]),
  (40,5,none,[8,9]),
  (40,15,some 2,[13]),
  (40,15,none,[8,9]),
  (41,4,some 0,[0,1,7]),
  (41,4,none,[8,9]),
  (41,11,some 2,[7,11,12]),
  (41,11,none,[8,9]),
  (42,4,some 0,[0]),
  (42,4,none,[2,3,4]),
  (42,11,some 2,[0,7]),
  (42,11,none,[2,3,4]),
  (42,17,some 4,[7,9]),
  (42,17,none,[2,3,4]),
  (43,4,some 0,[]),
  (43,4,none,[2]),
  (44,4,some 0,[0,4,5,6]),
  (44,4,none,[2,3]),
  (44,8,some 2,[4,5]),
  (44,8,none,[2,3]),
  (49,4,some 0,[]),
  (49,4,none,[4]),
  (49,9,some 2,[0,1,5]),
  (49,9,none,[4]),
  (51,4,some 0,[0]),
  (51,4,none,[4]),
  (54,3,some 0,[10]),
  (54,3,none,[8,9]),
  (55,3,some 0,[4,5]),
  (55,3,none,[4]),
  (57,3,some 0,[7]),
  (57,3,none,[6]),
  (57,8,some 2,[0,1,2,7,8]),
  (57,8,none,[6]),
  (57,11,some 4,[0,1,2,7,8,9,10,11]),
  (57,11,none,[6]),
  (59,3,some 0,[]),
  (59,3,none,[10]),
  (60,2,some 0,[0]),
  (60,2,none,[2]),
  (60,7,some 2,[0,7,8,9]),
  (60,7,none,[2]),
  (62,2,some 0,[0,1]),
  (62,2,none,[4]),
  (63,3,some 0,[3]),
  (63,3,none,[2]),
  (64,3,some 0,[1,9,10]),
  (64,3,none,[6,7,8]),
  (64,9,some 2,[1,2,9,10,12,15,16,17]),
  (64,9,none,[6,7,8]),
  (65,3,some 0,[4,5]),
  (65,3,none,[4]),
  (66,3,some 0,[0,1,2,7]),
  (66,3,none,[6]),
  (66,10,some 2,[0,1,2,7,8]),
  (66,10,none,[6]),
  (66,15,some 4,[1,7]),
  (66,15,none,[6]),
  (67,3,some 0,[6,7]),
  (67,3,none,[4,5]),
  (68,2,some 0,[0,1]),
  (68,2,none,[4]),
  (70,3,some 0,[2,9,10]),
  (70,3,none,[6,7,8]),
  (73,7,some 1,[]),
  (73,7,none,[8]),
  (75,2,some 0,[0]),
  (75,2,none,[2]),
  (79,7,some 0,[9]),
  (79,7,none,[8]),
  (85,4,some 0,[]),
  (85,4,none,[8]),
  (86,3,some 0,[5]),
  (86,3,none,[4]),
  (86,7,some 2,[0,1,6,7]),
  (86,7,none,[4]),
  (86,10,some 4,[0,1,5,6,7,8]),
  (86,10,none,[4]),
  (90,2,some 0,[]),
  (90,2,none,[4]),
  (98,2,some 0,[]),
  (98,2,none,[4]),
  (99,2,some 0,[]),
  (99,2,none,[4]),
  (100,2,some 0,[]),
  (100,2,none,[4]),
  (101,2,some 0,[]),
  (101,2,none,[4]),
  (102,2,some 0,[]),
  (102,2,none,[4]),
  (104,2,some 0,[]),
  (104,2,none,[4])]
def annOf (f:FuncId) (k:Nat):Option (List Nat):=(annL.find? fun x=>x.1 == f && x.2.1 == k).map (·.2.2)
def annXOf (f:FuncId) (k:Nat) (e:Option Nat):Option (List Nat):=(annXL.find? fun x=>x.1 == f && x.2.1 == k && x.2.2.1 == e).map (·.2.2.2)
def wrL:List (Nat × List Bool):=[(21,[true,true,true]),(23,[true,true,true]),(57,[true,true,true]),(86,[true,true]),(84,[true,true,true]),(85,[true,true,true,true,true,true]),(93,[true,false]),(94,[true,false]),(95,[true,false]),(96,[true,false]),(97,[true,false])]
def wrOf (f:FuncId):List Bool:=((wrL.find? fun x=>x.1 == f).map (·.2)).getD []
def fzoOf (o:Oper):List Nat:=match o.op with
 | .move (.tmp 1)=>if o.dst = some 18 then [0] else []
 | .store t _ v=>if t = 37 then (match v with
   | .tmp x=>if x = 104 then [104] else []
   | _=>[]) else []
 | .buildSlice t _ ps=>if t = 141 || t = 105 then ps.toList.filterMap fun p=>match p.2 with
   | .tmp t=>some t
   | _=>none
   else []
 | _=>[]
noncomputable def C:Cfg:={ P:=Try.prog,ty:=tyOf Try.prog,wr:=wrOf,ann:=annOf,annX:=annXOf,fuel:=2 ^ 64,frz:=fun _=>false,give:=fun _ _=>false,ext:=fun _=>none,fzo:=fzoOf }
theorem own:ownKnob Try.prog.godebug = none:=by kernel_rfl
theorem mixed:C.P.follows .mixedOrders = true:=by kernel_rfl
def fnOk (fn:Func):Bool:=match fn.body with
 | none=>true
 | some c => fn.name != "runtime.NumGoroutine" && regsOk c
theorem fnsOk:Try.prog.funcs.toList.all fnOk = true:=by kernel_rfl
theorem fn_ok {f : FuncId} {fn : Func} {c : Code} (h : Try.prog.funcs[f]? = some fn) (hb : fn.body = some c) : fn.name ≠ "runtime.NumGoroutine" ∧ regsOk c = true := by
 have hm:fn ∈ Try.prog.funcs:=Array.mem_of_getElem? h
 have:=List.all_eq_true.1 fnsOk fn (by simpa using hm)
 unfold fnOk at this
 rw [hb] at this
 simpa using this
theorem callsOk (n:Nat):CallOK C.P (callA C n):=by
 refine calls_ok (C:=C) ?_ ?_ mixed ?_ ?_ n
 ·intro t T h
  dsimp only [C] at h ⊢
  exact h
 ·intro f E h
  delta C at h
  cases h
 ·intro f fn h hb
  obtain ⟨c,hc⟩:=Option.isSome_iff_exists.1 hb
  exact (fn_ok h hc).1
 ·exact fun f fn c h hb=>(fn_ok h hb).2
def s47:Sig:=⟨[.k (.int .i64),.k (.int .i64),.k (.int .i64)],[(.k .bool,[])]⟩
def s50:Sig:=⟨[.k (.int .i64),.k (.int .i64),.k (.int .i64)],[(.k .bool,[])]⟩
def s75:Sig:=⟨[.k (.ro [.int .i64,.int .i64])],[(.k .bool,[])]⟩
def l75_2:LSig:=mkLS [0,5,6,7] [(41,[(0,.k (.ro [.int .i64,.int .i64])),(5,.k (.ro [.int .i64,.int .i64])),(6,.k (.int .i64)),(7,.k (.int .i64))],[])] [(.ret,[2],[(41,[(2,.k .bool)],[])]),(.exit 0,[0],[(41,[(0,.k (.ro [.int .i64,.int .i64]))],[])])]
def s74:Sig:=⟨[.k (.ro [.int .i64,.int .i64])],[(.k .bool,[])]⟩
def s78:Sig:=⟨[.k (.int .i64)],[(.k .bool,[])]⟩
def s98:Sig:=⟨[.k (.ro [.ro [.int .i64,.int .i64]]),.fn 74 [] []],[(.k (.int .i64),[])]⟩
def l98_2:LSig:=mkLS [0,1,7,8] [(19,[(0,.k (.ro [.ro [.int .i64,.int .i64]])),(1,.fn 74 [] []),(7,.k (.int .i64)),(8,.k (.int .i64))],[])] [(.ret,[4],[(19,[(4,.k (.int .i64))],[])]),(.exit 0,[],[(19,[],[])])]
def s99:Sig:=⟨[.k (.ro [.int .i64]),.fn 78 [] []],[(.k (.int .i64),[])]⟩
def l99_2:LSig:=mkLS [0,1,7,8] [(19,[(0,.k (.ro [.int .i64])),(1,.fn 78 [] []),(7,.k (.int .i64)),(8,.k (.int .i64))],[])] [(.ret,[4],[(19,[(4,.k (.int .i64))],[])]),(.exit 0,[],[(19,[],[])])]
def s76:Sig:=⟨[.k (.ro [.ro [.int .i64,.int .i64]]),.fn 74 [] []],[(.k .bool,[])]⟩
def s77:Sig:=⟨[.k (.ro [.int .i64]),.fn 78 [] []],[(.k .bool,[])]⟩
def s46:Sig:=⟨[.agg [.k (.ro [.ro [.int .i64,.int .i64]]),.k (.ro [.ro [.int .i64,.int .i64]]),.k (.ro [.int .i64]),.k (.int .i64)]],[(.k .bool,[])]⟩
def s79:Sig:=⟨[.agg [.k (.ro [.ro [.int .i64,.int .i64]]),.k (.ro [.ro [.int .i64,.int .i64]]),.k (.ro [.int .i64]),.k (.int .i64)],.k (.int .i64),.k (.int .i64),.k .bool],[(.k (.int .i64),[])]⟩
def l79_7:LSig:=mkLS [2,9,10] [(79,[(2,.k (.int .i64)),(9,.k (.ro [.int .i64,.int .i64])),(10,.k (.int .i64))],[])] [(.ret,[8],[(79,[(8,.k (.int .i64))],[])]),(.exit 0,[9],[(79,[(9,.k (.ro [.int .i64,.int .i64]))],[])])]
def s48:Sig:=⟨[.agg [.k (.ro [.ro [.int .i64,.int .i64]]),.k (.ro [.ro [.int .i64,.int .i64]]),.k (.ro [.int .i64]),.k (.int .i64)],.k (.int .i64),.k (.int .i64),.k .bool,.k (.int .i64)],[(.k (.int .i64),[])]⟩
def s17:Sig:=⟨[.agg [.k (.ro [.ro [.int .i64,.int .i64]]),.k (.ro [.ro [.int .i64,.int .i64]]),.k (.ro [.int .i64]),.k (.int .i64)],.k (.int .i64),.k (.int .i64),.k .bool,.k (.int .i64)],[(.tup [.k (.int .i64),.k (.int .i64)],[])]⟩
def s49:Sig:=⟨[.k (.ro [.ro [.int .i64,.int .i64]]),.k (.int .i64)],[(.k .bool,[])]⟩
def l49_4:LSig:=mkLS [0,1,5] [(75,[(0,.k (.ro [.ro [.int .i64,.int .i64]])),(1,.k (.int .i64)),(5,.k (.int .i64))],[])] [(.ret,[4],[(75,[(4,.k .bool)],[])]),(.exit 0,[],[(75,[],[])])]
def l49_9:LSig:=mkLS [0,1,5,6] [(75,[(0,.k (.ro [.ro [.int .i64,.int .i64]])),(1,.k (.int .i64)),(5,.k (.int .i64)),(6,.k (.int .i64))],[])] [(.ret,[4],[(75,[(4,.k .bool)],[])]),(.exit 2,[0,1,5],[(75,[(0,.k (.ro [.ro [.int .i64,.int .i64]])),(1,.k (.int .i64)),(5,.k (.int .i64))],[])])]
def s18:Sig:=⟨[.agg [.k (.ro [.ro [.int .i64,.int .i64]]),.k (.ro [.ro [.int .i64,.int .i64]]),.k (.ro [.int .i64]),.k (.int .i64)]],[(.k .bool,[])]⟩
def l18_5:LSig:=mkLS [1,3,4] [(53,[(1,.ptr 0 4 0 0),(3,.k (.int .i64)),(4,.k (.int .i64))],[.box [.k (.ro [.ro [.int .i64,.int .i64]]),.k (.ro [.ro [.int .i64,.int .i64]]),.k (.ro [.int .i64]),.k (.int .i64)]])] [(.ret,[2],[(53,[(2,.k .bool)],[])]),(.exit 0,[],[(53,[],[])])]
def s51:Sig:=⟨[.k (.ro [.int .i64,.int .i64]),.k (.int .i64)],[(.k (.int .i64),[])]⟩
def l51_4:LSig:=mkLS [0,1,5] [(63,[(0,.k (.ro [.int .i64,.int .i64])),(1,.k (.int .i64)),(5,.k (.int .i64))],[])] [(.ret,[4],[(63,[(4,.k (.int .i64))],[])]),(.exit 0,[0],[(63,[(0,.k (.ro [.int .i64,.int .i64]))],[])])]
def s19:Sig:=⟨[.agg [.k (.ro [.ro [.int .i64,.int .i64]]),.k (.ro [.ro [.int .i64,.int .i64]]),.k (.ro [.int .i64]),.k (.int .i64)],.k (.int .i64),.k (.int .i64),.k .bool,.k (.int .i64)],[(.k (.int .i64),[])]⟩
def s15:Sig:=⟨[.agg [.k (.ro [.ro [.int .i64,.int .i64]]),.k (.ro [.ro [.int .i64,.int .i64]]),.k (.ro [.int .i64]),.k (.int .i64)]],[(.k .bool,[])]⟩
def l15_4:LSig:=mkLS [1,3] [(49,[(1,.ptr 0 4 0 0),(3,.k (.int .i64))],[.box [.k (.ro [.ro [.int .i64,.int .i64]]),.k (.ro [.ro [.int .i64,.int .i64]]),.k (.ro [.int .i64]),.k (.int .i64)]])] [(.ret,[2],[(49,[(2,.k .bool)],[])]),(.exit 0,[1],[(49,[(1,.ptr 0 4 0 0)],[.box [.k (.ro [.ro [.int .i64,.int .i64]]),.k (.ro [.ro [.int .i64,.int .i64]]),.k (.ro [.int .i64]),.k (.int .i64)]])])]
def l15_9:LSig:=mkLS [1,4] [(49,[(1,.ptr 0 4 0 0),(4,.k (.int .i64))],[.box [.k (.ro [.ro [.int .i64,.int .i64]]),.k (.ro [.ro [.int .i64,.int .i64]]),.k (.ro [.int .i64]),.k (.int .i64)]])] [(.ret,[2],[(49,[(2,.k .bool)],[])]),(.exit 2,[],[(49,[],[])])]
noncomputable section
def knotAt (l:List (List D)) (j:Nat):Bool:=
 within (ix (l.getD j []) 0) (-40) 80 && within (ix (l.getD j []) 1) 0 1000 && (decide (j = 0) || decide (ix (l.getD (j - 1) []) 0 < ix (l.getD j []) 0))
def rowOk (l:List (List D)):Bool:=allFrom (knotAt l) 0 l.length && within l.length 1 10
def rowAt (l:List (List D)) (j:Nat):List (List D):=lx (l.getD j []) 0
def rowsOk (l:List (List D)):Bool:=allFrom (fun j=>rowOk (rowAt l j)) 0 l.length
def wearOk (l:List (List D)):Bool:=allFrom (fun j=>within (ix (l.getD j []) 0) 0 1000) 0 l.length
def compoundOk (dry wet wear:List (List D)) (loss:Int):Bool:=
 within dry.length 1 8 && decide (wet.length = dry.length) && decide (wear.length = dry.length) && within loss 0 1000 && rowsOk dry && rowsOk wet && wearOk wear
def smallRows (l:List (List D)):Prop:=l.length < big ∧ ∀ j,j < l.length → (rowAt l j).length < big
def shortOk (dry wet wear:List (List D)):Bool:=
 decide (dry.length ≤ 10) && decide (wet.length ≤ 10) && decide (wear.length ≤ 10) && allFrom (fun j=>decide ((rowAt dry j).length ≤ 12)) 0 dry.length && allFrom (fun j=>decide ((rowAt wet j).length ≤ 12)) 0 wet.length
def interp (a b:List D) (d:Int):Int:=ix a 1 + ((ix b 1 - ix a 1) * (d - ix a 0)).tdiv (ix b 0 - ix a 0)
def freshFrom (l:List (List D)) (d:Int):Nat → Nat → Int
 | _,0=>ix (l.getD (l.length - 1) []) 1
 | i,k + 1=>if d ≤ ix (l.getD i []) 0 then interp (l.getD (i - 1) []) (l.getD i []) d else freshFrom l d (i + 1) k
def freshV (l:List (List D)) (d:Int):Int:=if d ≤ ix (l.getD 0 []) 0 then ix (l.getD 0 []) 1 else freshFrom l d 1 (l.length - 1)
def gripV (g loss wear:Int):Int:=g - (g * loss * wear).tdiv 1000000000
def rowFor (dry wet:List (List D)) (surface:Int) (w:Bool):List (List D):=rowAt (if w then wet else dry) surface.toNat
def gripC (dry wet:List (List D)) (loss surface degrees:Int) (w:Bool) (wear:Int):Int:=gripV (freshV (rowFor dry wet surface w) degrees) loss wear
def surfOk (dry wet:List (List D)) (surface:Int) (w:Bool):Prop:=0 ≤ surface ∧ surface < dry.length ∧ surface < wet.length ∧ rowOk (rowFor dry wet surface w) = true
def G47 (ds:List D):T (List D):=match ds with
 | [a,b,c]=>.leaf [.b (within a.I b.I c.I)]
 | _=>.fail
def G50 (ds:List D):T (List D):=match ds with
 | [a,b,c]=>.leaf [.b (within a.I b.I c.I)]
 | _=>.fail
def G75 (ds:List D):T (List D):=match ds with
 | [l]=>.need (yes (l.L.length < big)) (.leaf [.b (rowOk l.L)])
 | _=>.fail
def G75_2 (ds:List D):T (Ex × List D):=match ds with
 | [l0, l,n,i]=>.need (yes (l0.L = l.L ∧ n.I = l.L.length ∧ 0 ≤ i.I ∧ i.I ≤ n.I ∧ l.L.length < big))
     (.ite (allFrom (knotAt l.L) i.I.toNat (l.L.length - i.I.toNat)) (.leaf (.exit 0,[.l l0.L])) (.leaf (.ret,[.b false])))
 | _=>.fail
def G74 (ds:List D):T (List D):=match ds with
 | [l]=>.need (yes (l.L.length < big)) (.leaf [.b (!rowOk l.L)])
 | _=>.fail
def G78 (ds:List D):T (List D):=match ds with
 | [a]=>.leaf [.b (!within a.I 0 1000)]
 | _=>.fail
def G98 (ds:List D):T (List D):=match ds with
 | [l]=>.need (yes (smallRows l.L)) (.leaf [.i (firstFrom (fun j=>!rowOk (rowAt l.L j)) 0 l.L.length)])
 | _=>.fail
def G98_2 (ds:List D):T (Ex × List D):=match ds with
 | [l, n,i]=>.need (yes (smallRows l.L ∧ n.I = l.L.length ∧ 0 ≤ i.I ∧ i.I ≤ n.I))
     (.ite (decide (firstFrom (fun j=>!rowOk (rowAt l.L j)) i.I.toNat (l.L.length - i.I.toNat) ≥ 0)) (.leaf (.ret,[.i (firstFrom (fun j=>!rowOk (rowAt l.L j)) i.I.toNat (l.L.length - i.I.toNat))])) (.leaf (.exit 0,[])))
 | _=>.fail
def G99 (ds:List D):T (List D):=match ds with
 | [l]=>.need (yes (l.L.length < big)) (.leaf [.i (firstFrom (fun j=>!within (ix (l.L.getD j []) 0) 0 1000) 0 l.L.length)])
 | _=>.fail
def G99_2 (ds:List D):T (Ex × List D):=match ds with
 | [l, n,i]=>.need (yes (l.L.length < big ∧ n.I = l.L.length ∧ 0 ≤ i.I ∧ i.I ≤ n.I))
     (.ite (decide (firstFrom (fun j=>!within (ix (l.L.getD j []) 0) 0 1000) i.I.toNat (l.L.length - i.I.toNat) ≥ 0)) (.leaf (.ret,[.i (firstFrom (fun j=>!within (ix (l.L.getD j []) 0) 0 1000) i.I.toNat (l.L.length - i.I.toNat))])) (.leaf (.exit 0,[])))
 | _=>.fail
def G76 (ds:List D):T (List D):=match ds with
 | [l]=>.need (yes (smallRows l.L)) (.leaf [.b (!rowsOk l.L)])
 | _=>.fail
def G77 (ds:List D):T (List D):=match ds with
 | [l]=>.need (yes (l.L.length < big)) (.leaf [.b (!wearOk l.L)])
 | _=>.fail
def G46 (ds:List D):T (List D):=match ds with
 | [a,b,c,d]=>.need (yes (smallRows a.L ∧ smallRows b.L ∧ c.L.length < big)) (.leaf [.b (compoundOk a.L b.L c.L d.I)])
 | _=>.fail
def G79 (ds:List D):T (List D):=match ds with
 | [a,b,_,_,e,f,g]=>.need (yes (surfOk a.L b.L e.I g.B ∧ -40 ≤ f.I ∧ f.I ≤ 80)) (.leaf [.i (freshV (rowFor a.L b.L e.I g.B) f.I)])
 | _=>.fail
def G79_7 (ds:List D):T (Ex × List D):=match ds with
 | [a, b,c]=>.need (yes (rowOk b.L = true ∧ -40 ≤ a.I ∧ a.I ≤ 80 ∧ 1 ≤ c.I ∧ c.I ≤ b.L.length))
     (.ite (allFrom (fun j=>!decide (a.I ≤ ix (b.L.getD j []) 0)) c.I.toNat (b.L.length - c.I.toNat)) (.leaf (.exit 0,[.l b.L])) (.leaf (.ret,[.i (freshFrom b.L a.I c.I.toNat (b.L.length - c.I.toNat))])))
 | _=>.fail
def G48 (ds:List D):T (List D):=match ds with
 | [a,b,_,d,e,f,g,h]=>.need (yes (surfOk a.L b.L e.I g.B ∧ -40 ≤ f.I ∧ f.I ≤ 80 ∧ 0 ≤ d.I ∧ d.I ≤ 1000 ∧ 0 ≤ h.I ∧ h.I ≤ 1000000)) (.leaf [.i (gripC a.L b.L d.I e.I f.I g.B h.I)])
 | _=>.fail
def G17 (ds:List D):T (List D):=match ds with
 | [a, b,c,d,e,f,g,h]=>.need (yes (smallRows a.L ∧ smallRows b.L ∧ c.L.length < big))
     (.ite (compoundOk a.L b.L c.L d.I && within e.I 0 (a.L.length - 1) && within f.I (-40) 80 && within h.I 0 1000000) (.leaf [.i (gripC a.L b.L d.I e.I f.I g.B h.I),.i 0]) (.leaf [.i 0,.i 2]))
 | _=>.fail
def G49 (ds:List D):T (List D):=match ds with
 | [a,b]=>.need (yes (a.L.length < big)) (.leaf [.b (decide (a.L.length = b.I) && rowsOk a.L)])
 | _=>.fail
def G49_4 (ds:List D):T (Ex × List D):=match ds with
 | [a, b,c]=>.need (yes (a.L.length < big ∧ b.I = a.L.length ∧ 0 ≤ c.I ∧ c.I ≤ b.I))
     (.ite (allFrom (fun j=>rowOk (rowAt a.L j)) c.I.toNat (a.L.length - c.I.toNat)) (.leaf (.exit 0,[])) (.leaf (.ret,[.b false])))
 | _=>.fail
def G49_9 (ds:List D):T (Ex × List D):=match ds with
 | [a, b,c,d]=>.need (yes (a.L.length < big ∧ 0 ≤ c.I ∧ c.I < a.L.length ∧ (rowAt a.L c.I.toNat).length ≤ 10 ∧ 0 ≤ d.I ∧ d.I ≤ (rowAt a.L c.I.toNat).length))
     (.ite (allFrom (knotAt (rowAt a.L c.I.toNat)) d.I.toNat ((rowAt a.L c.I.toNat).length - d.I.toNat)) (.leaf (.exit 2,[.l a.L,.i b.I,.i c.I])) (.leaf (.ret,[.b false])))
 | _=>.fail
def G18 (ds:List D):T (List D):=match ds with
 | [a,b,c,d]=>.need (yes (a.L.length < big ∧ b.L.length < big ∧ c.L.length < big)) (.leaf [.b (compoundOk a.L b.L c.L d.I)])
 | _=>.fail
def G18_5 (ds:List D):T (Ex × List D):=match ds with
 | [n, i,_,_,c,_]=>.need (yes (c.L.length < big ∧ n.I = c.L.length ∧ 0 ≤ i.I ∧ i.I ≤ n.I))
     (.ite (allFrom (fun j=>within (ix (c.L.getD j []) 0) 0 1000) i.I.toNat (c.L.length - i.I.toNat)) (.leaf (.exit 0,[])) (.leaf (.ret,[.b false])))
 | _=>.fail
def G51 (ds:List D):T (List D):=match ds with
 | [l,d]=>.need (yes (rowOk l.L = true ∧ -40 ≤ d.I ∧ d.I ≤ 80)) (.leaf [.i (freshV l.L d.I)])
 | _=>.fail
def G51_4 (ds:List D):T (Ex × List D):=match ds with
 | [b, a,c]=>.need (yes (rowOk b.L = true ∧ -40 ≤ a.I ∧ a.I ≤ 80 ∧ 1 ≤ c.I ∧ c.I ≤ b.L.length))
     (.ite (allFrom (fun j=>!decide (a.I ≤ ix (b.L.getD j []) 0)) c.I.toNat (b.L.length - c.I.toNat)) (.leaf (.exit 0,[.l b.L])) (.leaf (.ret,[.i (freshFrom b.L a.I c.I.toNat (b.L.length - c.I.toNat))])))
 | _=>.fail
def G19 (ds:List D):T (List D):=match ds with
 | [a,b,_,d,e,f,g,h]=>.need (yes (surfOk a.L b.L e.I g.B ∧ -40 ≤ f.I ∧ f.I ≤ 80 ∧ 0 ≤ d.I ∧ d.I ≤ 1000 ∧ 0 ≤ h.I ∧ h.I ≤ 1000000)) (.leaf [.i (gripC a.L b.L d.I e.I f.I g.B h.I)])
 | _=>.fail
def G15 (ds:List D):T (List D):=match ds with
 | [a,b,c,_]=>.leaf [.b (shortOk a.L b.L c.L)]
 | _=>.fail
def G15_4 (ds:List D):T (Ex × List D):=match ds with
 | [i, a,b,c,d]=>.need (yes (a.L.length ≤ 10 ∧ 0 ≤ i.I ∧ i.I ≤ a.L.length))
     (.ite (allFrom (fun j=>decide ((rowAt a.L j).length ≤ 12)) i.I.toNat (a.L.length - i.I.toNat)) (.leaf (.exit 0,[.l a.L,.l b.L,.l c.L,.i d.I])) (.leaf (.ret,[.b false])))
 | _=>.fail
def G15_9 (ds:List D):T (Ex × List D):=match ds with
 | [i, _,b,_,_]=>.need (yes (b.L.length ≤ 10 ∧ 0 ≤ i.I ∧ i.I ≤ b.L.length))
     (.ite (allFrom (fun j=>decide ((rowAt b.L j).length ≤ 12)) i.I.toNat (b.L.length - i.I.toNat)) (.leaf (.exit 2,[])) (.leaf (.ret,[.b false])))
 | _=>.fail
end
noncomputable def sp47:SpL:=[]
noncomputable def lp47:LpL:=[]
noncomputable def tab47:Tab:=mkTab sp47 lp47
noncomputable def sp50:SpL:=[]
noncomputable def lp50:LpL:=[]
noncomputable def tab50:Tab:=mkTab sp50 lp50
noncomputable def sp75:SpL:=[(47,mkF s47 G47)]
noncomputable def lp75:LpL:=[(2,mkL l75_2 G75_2)]
noncomputable def tab75:Tab:=mkTab sp75 lp75
noncomputable def sp74:SpL:=[(75,mkF s75 G75)]
noncomputable def lp74:LpL:=[]
noncomputable def tab74:Tab:=mkTab sp74 lp74
noncomputable def sp78:SpL:=[(47,mkF s47 G47)]
noncomputable def lp78:LpL:=[]
noncomputable def tab78:Tab:=mkTab sp78 lp78
noncomputable def sp98:SpL:=[(74,mkF s74 G74)]
noncomputable def lp98:LpL:=[(2,mkL l98_2 G98_2)]
noncomputable def tab98:Tab:=mkTab sp98 lp98
noncomputable def sp99:SpL:=[(78,mkF s78 G78)]
noncomputable def lp99:LpL:=[(2,mkL l99_2 G99_2)]
noncomputable def tab99:Tab:=mkTab sp99 lp99
noncomputable def sp76:SpL:=[(98,mkF s98 G98),(74,mkF s74 G74)]
noncomputable def lp76:LpL:=[]
noncomputable def tab76:Tab:=mkTab sp76 lp76
noncomputable def sp77:SpL:=[(99,mkF s99 G99),(78,mkF s78 G78)]
noncomputable def lp77:LpL:=[]
noncomputable def tab77:Tab:=mkTab sp77 lp77
noncomputable def sp46:SpL:=[(47,mkF s47 G47),(76,mkF s76 G76),(77,mkF s77 G77)]
noncomputable def lp46:LpL:=[]
noncomputable def tab46:Tab:=mkTab sp46 lp46
noncomputable def sp79:SpL:=[]
noncomputable def lp79:LpL:=[(7,mkL l79_7 G79_7)]
noncomputable def tab79:Tab:=mkTab sp79 lp79
noncomputable def sp48:SpL:=[(79,mkF s79 G79)]
noncomputable def lp48:LpL:=[]
noncomputable def tab48:Tab:=mkTab sp48 lp48
noncomputable def sp49:SpL:=[(50,mkF s50 G50)]
noncomputable def lp49:LpL:=[(4,mkL l49_4 G49_4),(9,mkL l49_9 G49_9)]
noncomputable def tab49:Tab:=mkTab sp49 lp49
noncomputable def sp18:SpL:=[(49,mkF s49 G49),(50,mkF s50 G50)]
noncomputable def lp18:LpL:=[(5,mkL l18_5 G18_5)]
noncomputable def tab18:Tab:=mkTab sp18 lp18
noncomputable def sp51:SpL:=[]
noncomputable def lp51:LpL:=[(4,mkL l51_4 G51_4)]
noncomputable def tab51:Tab:=mkTab sp51 lp51
noncomputable def sp19:SpL:=[(51,mkF s51 G51)]
noncomputable def lp19:LpL:=[]
noncomputable def tab19:Tab:=mkTab sp19 lp19
noncomputable def sp15:SpL:=[]
noncomputable def lp15:LpL:=[(4,mkL l15_4 G15_4),(9,mkL l15_9 G15_9)]
noncomputable def tab15:Tab:=mkTab sp15 lp15
def s92:Sig:=⟨[.agg [.k (.int .i64),.k (.int .i64),.k (.int .i64),.k .bool],.eptr [.k (.int .i64)]],[(.k .bool,[])]⟩
def s104:Sig:=⟨[.k (.ro [.int .i64,.int .i64,.int .i64,.bool]),.fn 92 [] [.eptr [.k (.int .i64)]]],[(.k (.int .i64),[])]⟩
def l104_2:LSig:=mkLS [0,1,7,8] [(19,[(0,.k (.ro [.int .i64,.int .i64,.int .i64,.bool])),(1,.fn 92 [] [.eptr [.k (.int .i64)]]),(7,.k (.int .i64)),(8,.k (.int .i64))],[])] [(.ret,[4],[(19,[(4,.k (.int .i64))],[])]),(.exit 0,[],[(19,[],[])])]
def s91:Sig:=⟨[.k (.ro [.int .i64,.int .i64,.int .i64,.bool]),.fn 92 [] [.eptr [.k (.int .i64)]]],[(.k .bool,[])]⟩
def s69:Sig:=⟨[.k (.ro [.int .i64,.int .i64,.int .i64,.bool]),.k (.int .i64)],[(.k .bool,[])]⟩
def s70:Sig:=⟨[.agg [.k (.ro [.ro [.int .i64,.int .i64]]),.k (.ro [.ro [.int .i64,.int .i64]]),.k (.ro [.int .i64]),.k (.int .i64)],.k (.ro [.int .i64,.int .i64,.int .i64,.bool]),.k (.int .i64)],[(.tup [.k (.int .i64),.k (.int .i64),.k .bool],[])]⟩
def l70_3:LSig:=mkLS [2,3,9,10,13,14,15] [(52,[(2,.k (.int .i64)),(3,.ptr 0 4 0 0),(9,.k (.int .i64)),(10,.k .bool),(13,.k (.ro [.int .i64,.int .i64,.int .i64,.bool])),(14,.k (.int .i64)),(15,.k (.int .i64))],[.box [.k (.ro [.ro [.int .i64,.int .i64]]),.k (.ro [.ro [.int .i64,.int .i64]]),.k (.ro [.int .i64]),.k (.int .i64)]])] [(.exit 0,[2,9,10],[(52,[(2,.k (.int .i64)),(9,.k (.int .i64)),(10,.k .bool)],[])])]
def s37:Sig:=⟨[.k (.ro [.int .i64,.int .i64,.int .i64,.bool]),.k (.int .i64)],[(.k .bool,[])]⟩
def l37_2:LSig:=mkLS [0,1,5] [(42,[(0,.k (.ro [.int .i64,.int .i64,.int .i64,.bool])),(1,.k (.int .i64)),(5,.k (.int .i64))],[])] [(.ret,[4],[(42,[(4,.k .bool)],[])]),(.exit 0,[0],[(42,[(0,.k (.ro [.int .i64,.int .i64,.int .i64,.bool]))],[])])]
def s38:Sig:=⟨[.agg [.k (.ro [.ro [.int .i64,.int .i64]]),.k (.ro [.ro [.int .i64,.int .i64]]),.k (.ro [.int .i64]),.k (.int .i64)],.k (.ro [.int .i64,.int .i64,.int .i64,.bool]),.k (.int .i64)],[(.tup [.k (.int .i64),.k (.int .i64)],[])]⟩
def l38_3:LSig:=mkLS [1,2,3,8,9] [(51,[(1,.k (.ro [.int .i64,.int .i64,.int .i64,.bool])),(2,.k (.int .i64)),(3,.ptr 0 4 0 0),(8,.k (.int .i64)),(9,.k (.int .i64))],[.box [.k (.ro [.ro [.int .i64,.int .i64]]),.k (.ro [.ro [.int .i64,.int .i64]]),.k (.ro [.int .i64]),.k (.int .i64)]])] [(.exit 0,[2,8],[(51,[(2,.k (.int .i64)),(8,.k (.int .i64))],[])])]
def s39:Sig:=⟨[.agg [.k (.ro [.ro [.int .i64,.int .i64]]),.k (.ro [.ro [.int .i64,.int .i64]]),.k (.ro [.int .i64]),.k (.int .i64)],.k (.ro [.int .i64,.int .i64,.int .i64,.bool])],[(.k (.int .i64),[])]⟩
def l39_3:LSig:=mkLS [1,2,5,6] [(31,[(1,.k (.ro [.int .i64,.int .i64,.int .i64,.bool])),(2,.ptr 0 4 0 0),(5,.k (.int .i64)),(6,.k (.int .i64))],[.box [.k (.ro [.ro [.int .i64,.int .i64]]),.k (.ro [.ro [.int .i64,.int .i64]]),.k (.ro [.int .i64]),.k (.int .i64)]])] [(.exit 0,[5],[(31,[(5,.k (.int .i64))],[])])]
noncomputable section
def stretchP (n a b c:Int):Bool:=within a 0 (n - 1) && within b 0 100000 && within c (-40) 80
def stretchAt (l:List (List D)) (n:Int) (j:Nat):Bool:=stretchP n (ix (l.getD j []) 0) (ix (l.getD j []) 1) (ix (l.getD j []) 2)
def loopOk (l:List (List D)) (n:Int):Bool:=decide (l.length ≤ 30) && allFrom (stretchAt l n) 0 l.length
def stepLoss (dry wet:List (List D)) (loss w:Int) (c:List D):Int:=(ix c 1 * (1000 - gripC dry wet loss (ix c 0) (ix c 2) (bx c 3) w)).tdiv 1000
def stepWear (wl:List (List D)) (w:Int) (c:List D):Int:=w + ix c 1 * ix (wl.getD (ix c 0).toNat []) 0
def driveFrom (dry wet wl:List (List D)) (loss:Int) (l:List (List D)):Nat → Nat → Int → Int → Bool → Int × Int × Bool
 | _,0,w,s,b=>(w,s,b)
 | i,k + 1,w,s,b=>driveFrom dry wet wl loss l (i + 1) k (if stepWear wl w (l.getD i []) > 1000000 then 1000000 else stepWear wl w (l.getD i [])) (s + stepLoss dry wet loss w (l.getD i [])) (if stepWear wl w (l.getD i []) > 1000000 then false else b)
def useFrom (wl l:List (List D)):Nat → Nat → Int
 | _,0=>0
 | i,k + 1=>ix (l.getD i []) 1 * ix (wl.getD (ix (l.getD i []) 0).toNat []) 0 + useFrom wl l (i + 1) k
def fewN (n:Int):Prop:=0 ≤ n ∧ n ≤ 1000
def drivePre (dry wet wl:List (List D)) (loss:Int) (l:List (List D)):Prop:=compoundOk dry wet wl loss = true ∧ loopOk l dry.length = true
def drive (dry wet wl:List (List D)) (loss:Int) (l:List (List D)) (w:Int):Int × Int × Bool:=driveFrom dry wet wl loss l 0 l.length w 0 true
def G92 (ds:List D):T (List D):=match ds with
 | [a,b,c,_,n]=>.need (yes (fewN n.I)) (.leaf [.b (!stretchP n.I a.I b.I c.I)])
 | _=>.fail
def G104 (ds:List D):T (List D):=match ds with
 | [l,n]=>.need (yes (l.L.length < big ∧ fewN n.I)) (.leaf [.i (firstFrom (fun j=>!stretchAt l.L n.I j) 0 l.L.length)])
 | _=>.fail
def G104_2 (ds:List D):T (Ex × List D):=match ds with
 | [l, s,n,i]=>.need (yes (l.L.length < big ∧ fewN s.I ∧ n.I = l.L.length ∧ 0 ≤ i.I ∧ i.I ≤ n.I))
     (.ite (decide (firstFrom (fun j=>!stretchAt l.L s.I j) i.I.toNat (l.L.length - i.I.toNat) ≥ 0)) (.leaf (.ret,[.i (firstFrom (fun j=>!stretchAt l.L s.I j) i.I.toNat (l.L.length - i.I.toNat))])) (.leaf (.exit 0,[])))
 | _=>.fail
def G91 (ds:List D):T (List D):=match ds with
 | [l,n]=>.need (yes (l.L.length < big ∧ fewN n.I)) (.leaf [.b (!allFrom (stretchAt l.L n.I) 0 l.L.length)])
 | _=>.fail
def G69 (ds:List D):T (List D):=match ds with
 | [l,n]=>.need (yes (fewN n.I)) (.leaf [.b (loopOk l.L n.I)])
 | _=>.fail
def G70 (ds:List D):T (List D):=match ds with
 | [a,b,c,d,l,w]=>.need (yes (drivePre a.L b.L c.L d.I l.L ∧ 0 ≤ w.I ∧ w.I ≤ 1000000)) (.leaf [.i (drive a.L b.L c.L d.I l.L w.I).2.1,.i (drive a.L b.L c.L d.I l.L w.I).1,.b (drive a.L b.L c.L d.I l.L w.I).2.2])
 | _=>.fail
def G70_3 (ds:List D):T (Ex × List D):=match ds with
 | [w, s,o,l,n,i,a,b,c,d]=>.need (yes (drivePre a.L b.L c.L d.I l.L ∧ 0 ≤ w.I ∧ w.I ≤ 1000000 ∧ n.I = l.L.length ∧ 0 ≤ i.I ∧ i.I ≤ n.I ∧ 0 ≤ s.I ∧ s.I ≤ 100000 * i.I))
     (.leaf (.exit 0,[.i (driveFrom a.L b.L c.L d.I l.L i.I.toNat (l.L.length - i.I.toNat) w.I s.I o.B).1,.i (driveFrom a.L b.L c.L d.I l.L i.I.toNat (l.L.length - i.I.toNat) w.I s.I o.B).2.1,.b (driveFrom a.L b.L c.L d.I l.L i.I.toNat (l.L.length - i.I.toNat) w.I s.I o.B).2.2]))
 | _=>.fail
def G37 (ds:List D):T (List D):=match ds with
 | [l,n]=>.need (yes (fewN n.I ∧ l.L.length < lim)) (.leaf [.b (loopOk l.L n.I)])
 | _=>.fail
def G37_2 (ds:List D):T (Ex × List D):=match ds with
 | [l, n,i]=>.need (yes (fewN n.I ∧ l.L.length < lim ∧ 0 ≤ i.I ∧ i.I ≤ l.L.length))
     (.ite (allFrom (stretchAt l.L n.I) i.I.toNat (l.L.length - i.I.toNat)) (.leaf (.exit 0,[.l l.L])) (.leaf (.ret,[.b false])))
 | _=>.fail
def G38 (ds:List D):T (List D):=match ds with
 | [a,b,c,d,l,w]=>.need (yes (drivePre a.L b.L c.L d.I l.L ∧ 0 ≤ w.I ∧ w.I ≤ 1000000)) (.leaf [.i (drive a.L b.L c.L d.I l.L w.I).2.1,.i (drive a.L b.L c.L d.I l.L w.I).1])
 | _=>.fail
def G38_3 (ds:List D):T (Ex × List D):=match ds with
 | [l, w,s,i,a,b,c,d]=>.need (yes (drivePre a.L b.L c.L d.I l.L ∧ 0 ≤ w.I ∧ w.I ≤ 1000000 ∧ 0 ≤ i.I ∧ i.I ≤ l.L.length ∧ 0 ≤ s.I ∧ s.I ≤ 100000 * i.I))
     (.leaf (.exit 0,[.i (driveFrom a.L b.L c.L d.I l.L i.I.toNat (l.L.length - i.I.toNat) w.I s.I true).1,.i (driveFrom a.L b.L c.L d.I l.L i.I.toNat (l.L.length - i.I.toNat) w.I s.I true).2.1]))
 | _=>.fail
def G39 (ds:List D):T (List D):=match ds with
 | [a,b,c,d,l]=>.need (yes (drivePre a.L b.L c.L d.I l.L)) (.leaf [.i (useFrom c.L l.L 0 l.L.length)])
 | _=>.fail
def G39_3 (ds:List D):T (Ex × List D):=match ds with
 | [l, s,i,a,b,c,d]=>.need (yes (drivePre a.L b.L c.L d.I l.L ∧ 0 ≤ i.I ∧ i.I ≤ l.L.length ∧ 0 ≤ s.I ∧ s.I ≤ 100000000 * i.I))
     (.leaf (.exit 0,[.i (s.I + useFrom c.L l.L i.I.toNat (l.L.length - i.I.toNat))]))
 | _=>.fail
end
noncomputable def sp92:SpL:=[(47,mkF s47 G47)]
noncomputable def lp92:LpL:=[]
noncomputable def tab92:Tab:=mkTab sp92 lp92
noncomputable def sp104:SpL:=[(92,mkF s92 G92)]
noncomputable def lp104:LpL:=[(2,mkL l104_2 G104_2)]
noncomputable def tab104:Tab:=mkTab sp104 lp104
noncomputable def sp91:SpL:=[(104,mkF s104 G104),(92,mkF s92 G92)]
noncomputable def lp91:LpL:=[]
noncomputable def tab91:Tab:=mkTab sp91 lp91
noncomputable def sp69:SpL:=[(91,mkF s91 G91),(92,mkF s92 G92)]
noncomputable def lp69:LpL:=[]
noncomputable def tab69:Tab:=mkTab sp69 lp69
noncomputable def sp70:SpL:=[(48,mkF s48 G48)]
noncomputable def lp70:LpL:=[(3,mkL l70_3 G70_3)]
noncomputable def tab70:Tab:=mkTab sp70 lp70
noncomputable def sp37:SpL:=[(50,mkF s50 G50)]
noncomputable def lp37:LpL:=[(2,mkL l37_2 G37_2)]
noncomputable def tab37:Tab:=mkTab sp37 lp37
noncomputable def sp38:SpL:=[(19,mkF s19 G19)]
noncomputable def lp38:LpL:=[(3,mkL l38_3 G38_3)]
noncomputable def tab38:Tab:=mkTab sp38 lp38
noncomputable def sp39:SpL:=[]
noncomputable def lp39:LpL:=[(3,mkL l39_3 G39_3)]
noncomputable def tab39:Tab:=mkTab sp39 lp39
def s24:Sig:=⟨[.k (.ro [.int .i64]),.k (.ro [.int .i64])],[(.k .bool,[])]⟩
def l24_4:LSig:=mkLS [0,1,5] [(26,[(0,.k (.ro [.int .i64])),(1,.k (.ro [.int .i64])),(5,.k (.int .i64))],[])] [(.ret,[4],[(26,[(4,.k .bool)],[])]),(.exit 0,[],[(26,[],[])])]
def s16:Sig:=⟨[],[(.k .bool,[])]⟩
def s3:Sig:=⟨[.agg [.k (.ro [.ro [.int .i64,.int .i64]]),.k (.ro [.ro [.int .i64,.int .i64]]),.k (.ro [.int .i64]),.k (.int .i64)],.k (.int .i64),.k (.int .i64),.k .bool,.k (.int .i64),.k (.int .i64)],[(.k .bool,[])]⟩
noncomputable section
def legP (a b c:Int):Bool:=within a 0 b && decide (b ≤ 1000000) && within c 0 1000000
def legOk (c:List D):Bool:=legP (ix c 0) (ix c 1) (ix c 2)
def legAt (l:List (List D)) (j:Nat):Bool:=legOk (l.getD j [])
def tankOk (t r s:Int) (l:List (List D)):Bool:=within t 1 1000000 && within r 0 t && within s 0 t && decide (l.length ≤ 50) && allFrom (legAt l) 0 l.length
def sameAt (a b:List (List D)) (j:Nat):Bool:=ix (a.getD j []) 0 == ix (b.getD j []) 0
def sameL (a b:List (List D)):Bool:=decide (a.length = b.length) && allFrom (sameAt a b) 0 a.length
def G24 (ds:List D):T (List D):=match ds with
 | [a,b]=>.need (yes (a.L.length < big)) (.leaf [.b (sameL a.L b.L)])
 | _=>.fail
def G24_4 (ds:List D):T (Ex × List D):=match ds with
 | [a, b,i]=>.need (yes (a.L.length < big ∧ a.L.length = b.L.length ∧ 0 ≤ i.I ∧ i.I ≤ a.L.length))
     (.ite (allFrom (sameAt a.L b.L) i.I.toNat (a.L.length - i.I.toNat)) (.leaf (.exit 0,[])) (.leaf (.ret,[.b false])))
 | _=>.fail
end
noncomputable def sp24:SpL:=[]
noncomputable def lp24:LpL:=[(4,mkL l24_4 G24_4)]
noncomputable def tab24:Tab:=mkTab sp24 lp24
def s20:Sig:=⟨[.k (.ro [.ro [.ro [.int .i64,.int .i64]],.ro [.ro [.int .i64,.int .i64]],.ro [.int .i64],.int .i64]),.k (.ro [.ro [.int .i64,.int .i64,.int .i64,.bool]])],[(.k .bool,[])]⟩
def l20_4:LSig:=mkLS [0,1,5] [(39,[(0,.k (.ro [.ro [.ro [.int .i64,.int .i64]],.ro [.ro [.int .i64,.int .i64]],.ro [.int .i64],.int .i64])),(1,.k (.ro [.ro [.int .i64,.int .i64,.int .i64,.bool]])),(5,.k (.int .i64))],[])] [(.ret,[4],[(39,[(4,.k .bool)],[])]),(.exit 0,[1],[(39,[(1,.k (.ro [.ro [.int .i64,.int .i64,.int .i64,.bool]]))],[])])]
def l20_9:LSig:=mkLS [1,6] [(39,[(1,.k (.ro [.ro [.int .i64,.int .i64,.int .i64,.bool]])),(6,.k (.int .i64))],[])] [(.ret,[4],[(39,[(4,.k .bool)],[])]),(.exit 2,[],[(39,[],[])])]
def s81:Sig:=⟨[.agg [.k (.ro [.ro [.int .i64,.int .i64]]),.k (.ro [.ro [.int .i64,.int .i64]]),.k (.ro [.int .i64]),.k (.int .i64)],.eptr [.k (.ro [.ro [.ro [.int .i64,.int .i64]],.ro [.ro [.int .i64,.int .i64]],.ro [.int .i64],.int .i64])]],[(.k .bool,[])]⟩
def s100:Sig:=⟨[.k (.ro [.ro [.ro [.int .i64,.int .i64]],.ro [.ro [.int .i64,.int .i64]],.ro [.int .i64],.int .i64]),.fn 81 [] [.eptr [.k (.ro [.ro [.ro [.int .i64,.int .i64]],.ro [.ro [.int .i64,.int .i64]],.ro [.int .i64],.int .i64])]]],[(.k (.int .i64),[])]⟩
def l100_2:LSig:=mkLS [0,1,7,8] [(19,[(0,.k (.ro [.ro [.ro [.int .i64,.int .i64]],.ro [.ro [.int .i64,.int .i64]],.ro [.int .i64],.int .i64])),(1,.fn 81 [] [.eptr [.k (.ro [.ro [.ro [.int .i64,.int .i64]],.ro [.ro [.int .i64,.int .i64]],.ro [.int .i64],.int .i64])]]),(7,.k (.int .i64)),(8,.k (.int .i64))],[])] [(.ret,[4],[(19,[(4,.k (.int .i64))],[])]),(.exit 0,[],[(19,[],[])])]
def s80:Sig:=⟨[.k (.ro [.ro [.ro [.int .i64,.int .i64]],.ro [.ro [.int .i64,.int .i64]],.ro [.int .i64],.int .i64]),.fn 81 [] [.eptr [.k (.ro [.ro [.ro [.int .i64,.int .i64]],.ro [.ro [.int .i64,.int .i64]],.ro [.int .i64],.int .i64])]]],[(.k .bool,[])]⟩
def s83:Sig:=⟨[.k (.ro [.int .i64,.int .i64,.int .i64,.bool]),.eptr [.k (.ro [.ro [.ro [.int .i64,.int .i64]],.ro [.ro [.int .i64,.int .i64]],.ro [.int .i64],.int .i64])]],[(.k .bool,[])]⟩
def s101:Sig:=⟨[.k (.ro [.ro [.int .i64,.int .i64,.int .i64,.bool]]),.fn 83 [] [.eptr [.k (.ro [.ro [.ro [.int .i64,.int .i64]],.ro [.ro [.int .i64,.int .i64]],.ro [.int .i64],.int .i64])]]],[(.k (.int .i64),[])]⟩
def l101_2:LSig:=mkLS [0,1,7,8] [(19,[(0,.k (.ro [.ro [.int .i64,.int .i64,.int .i64,.bool]])),(1,.fn 83 [] [.eptr [.k (.ro [.ro [.ro [.int .i64,.int .i64]],.ro [.ro [.int .i64,.int .i64]],.ro [.int .i64],.int .i64])]]),(7,.k (.int .i64)),(8,.k (.int .i64))],[])] [(.ret,[4],[(19,[(4,.k (.int .i64))],[])]),(.exit 0,[],[(19,[],[])])]
def s82:Sig:=⟨[.k (.ro [.ro [.int .i64,.int .i64,.int .i64,.bool]]),.fn 83 [] [.eptr [.k (.ro [.ro [.ro [.int .i64,.int .i64]],.ro [.ro [.int .i64,.int .i64]],.ro [.int .i64],.int .i64])]]],[(.k .bool,[])]⟩
def s52:Sig:=⟨[.k (.ro [.ro [.ro [.int .i64,.int .i64]],.ro [.ro [.int .i64,.int .i64]],.ro [.int .i64],.int .i64]),.k (.ro [.ro [.int .i64,.int .i64,.int .i64,.bool]]),.k (.int .i64)],[(.k .bool,[])]⟩
def s54:Sig:=⟨[.agg [.k (.ro [.ro [.int .i64,.int .i64]]),.k (.ro [.ro [.int .i64,.int .i64]]),.k (.ro [.int .i64]),.k (.int .i64)],.k (.ro [.ro [.int .i64,.int .i64,.int .i64,.bool]]),.k (.ro [.int .i64]),.k (.int .i64)],[(.tup [.k (.int .i64),.k .bool],[])]⟩
def l54_3:LSig:=mkLS [2,3,4,10,11,17,18,19] [(46,[(2,.k (.ro [.int .i64])),(3,.k (.int .i64)),(4,.ptr 0 4 0 0),(10,.k (.int .i64)),(11,.k (.int .i64)),(17,.k (.ro [.ro [.int .i64,.int .i64,.int .i64,.bool]])),(18,.k (.int .i64)),(19,.k (.int .i64))],[.box [.k (.ro [.ro [.int .i64,.int .i64]]),.k (.ro [.ro [.int .i64,.int .i64]]),.k (.ro [.int .i64]),.k (.int .i64)]])] [(.ret,[8,9],[(46,[(8,.k (.int .i64)),(9,.k .bool)],[])]),(.exit 0,[10],[(46,[(10,.k (.int .i64))],[])])]
def s22:Sig:=⟨[.k (.ro [.ro [.ro [.int .i64,.int .i64]],.ro [.ro [.int .i64,.int .i64]],.ro [.int .i64],.int .i64]),.k (.ro [.ro [.int .i64,.int .i64,.int .i64,.bool]]),.k (.int .i64)],[(.k .bool,[])]⟩
def l22_4:LSig:=mkLS [0,1,7] [(70,[(0,.k (.ro [.ro [.ro [.int .i64,.int .i64]],.ro [.ro [.int .i64,.int .i64]],.ro [.int .i64],.int .i64])),(1,.k (.ro [.ro [.int .i64,.int .i64,.int .i64,.bool]])),(7,.k (.int .i64))],[])] [(.ret,[6],[(70,[(6,.k .bool)],[])]),(.exit 0,[0,1],[(70,[(0,.k (.ro [.ro [.ro [.int .i64,.int .i64]],.ro [.ro [.int .i64,.int .i64]],.ro [.int .i64],.int .i64])),(1,.k (.ro [.ro [.int .i64,.int .i64,.int .i64,.bool]]))],[])])]
def l22_9:LSig:=mkLS [0,1,8] [(70,[(0,.k (.ro [.ro [.ro [.int .i64,.int .i64]],.ro [.ro [.int .i64,.int .i64]],.ro [.int .i64],.int .i64])),(1,.k (.ro [.ro [.int .i64,.int .i64,.int .i64,.bool]])),(8,.k (.int .i64))],[])] [(.ret,[6],[(70,[(6,.k .bool)],[])]),(.exit 2,[],[(70,[],[])])]
def s41:Sig:=⟨[.k (.ro [.ro [.ro [.int .i64,.int .i64]],.ro [.ro [.int .i64,.int .i64]],.ro [.int .i64],.int .i64]),.k (.ro [.ro [.int .i64,.int .i64,.int .i64,.bool]]),.k (.int .i64),.agg [.k (.ro [.int .i64]),.k (.ro [.int .i64]),.k (.int .i64)]],[(.tup [.k (.int .i64),.k .bool],[])]⟩
def l41_4:LSig:=mkLS [0,1,7,10] [(127,[(0,.k (.ro [.ro [.ro [.int .i64,.int .i64]],.ro [.ro [.int .i64,.int .i64]],.ro [.int .i64],.int .i64])),(1,.k (.ro [.ro [.int .i64,.int .i64,.int .i64,.bool]])),(7,.ptr 0 3 0 0),(10,.k (.int .i64))],[.box [.k (.ro [.int .i64]),.k (.ro [.int .i64]),.k (.int .i64)]])] [(.ret,[8,9],[(127,[(8,.k (.int .i64)),(9,.k .bool)],[])]),(.exit 0,[0,1,7],[(127,[(0,.k (.ro [.ro [.ro [.int .i64,.int .i64]],.ro [.ro [.int .i64,.int .i64]],.ro [.int .i64],.int .i64])),(1,.k (.ro [.ro [.int .i64,.int .i64,.int .i64,.bool]])),(7,.ptr 0 3 0 0)],[.box [.k (.ro [.int .i64]),.k (.ro [.int .i64]),.k (.int .i64)]])])]
def l41_11:LSig:=mkLS [0,1,7,11,12,13,14] [(127,[(0,.k (.ro [.ro [.ro [.int .i64,.int .i64]],.ro [.ro [.int .i64,.int .i64]],.ro [.int .i64],.int .i64])),(1,.k (.ro [.ro [.int .i64,.int .i64,.int .i64,.bool]])),(7,.ptr 0 3 0 0),(11,.k (.int .i64)),(12,.k (.int .i64)),(13,.sl 1 1),(14,.k (.int .i64))],[.box [.k (.ro [.int .i64]),.k (.ro [.int .i64]),.k (.int .i64)],.row [.int .i64]])] [(.ret,[8,9],[(127,[(8,.k (.int .i64)),(9,.k .bool)],[])]),(.exit 2,[7,11,12],[(127,[(7,.ptr 0 3 0 0),(11,.k (.int .i64)),(12,.k (.int .i64))],[.box [.k (.ro [.int .i64]),.k (.ro [.int .i64]),.k (.int .i64)]])])]
noncomputable section
def mkI (xs:List Int):List (List D):=xs.map fun n=>[.i n]
def ints (l:List (List D)):List Int:=l.map fun c=>ix c 0
def leastOf (l:List (List D)) (j:Nat):Int:=ix (l.getD j []) 0
def mostOf (l:List (List D)) (j:Nat):Int:=ix (l.getD j []) 1
def fillOf (l:List (List D)) (j:Nat):Int:=ix (l.getD j []) 2
def needAt (l:List (List D)) (r s:Int):Nat → Int
 | 0=>r - s
 | j + 1=>needAt l r s j + mostOf l j
def upAt (l:List (List D)) (r s:Int):Nat → Int
 | 0=>0
 | j + 1=>max (upAt l r s j) (needAt l r s (j + 1))
def downAt (l:List (List D)) (r s:Int):Nat → Nat → Int
 | 0,j=>upAt l r s (j + 1)
 | k + 1,j=>max (upAt l r s (j + 1)) (downAt l r s k (j + 1) - fillOf l (j + 1))
def sumAt (l:List (List D)) (r s:Int) (j:Nat):Int:=downAt l r s (l.length - 1 - j) j
def amts (l:List (List D)) (A:List Int):Prop:=A.length = l.length ∧ ∀ j,j < l.length → 0 ≤ A.getD j 0 ∧ A.getD j 0 ≤ fillOf l j
def tankP (t r s:Int) (l:List (List D)):Prop:=tankOk t r s l = true
end
noncomputable section
def compC (c:List D):Bool:=compoundOk (lx c 0) (lx c 1) (lx c 2) (ix c 3)
def shortC (c:List D):Bool:=shortOk (lx c 0) (lx c 1) (lx c 2)
def smallC (c:List D):Prop:=smallRows (lx c 0) ∧ smallRows (lx c 1) ∧ (lx c 2).length < big
def smallCs (cs:List (List D)):Prop:=cs.length < big ∧ ∀ j,j < cs.length → smallC (cs.getD j [])
def surfs (cs:List (List D)):Int:=((lx (cs.getD 0 []) 0).length:Int)
def kindAt (n:Int) (cs:List (List D)) (j:Nat):Bool:=compC (cs.getD j []) && decide (((lx (cs.getD j []) 0).length:Int) = n)
def loopAt (n:Int) (ls:List (List D)) (j:Nat):Bool:=loopOk (rowAt ls j) n
def fewC (cs:List (List D)) (j:Nat):Bool:=shortC (cs.getD j [])
def fewL (ls:List (List D)) (j:Nat):Bool:=decide ((rowAt ls j).length ≤ 40)
def fewOk (cs ls:List (List D)):Bool:=decide (cs.length ≤ 10) && decide (ls.length ≤ 10) && allFrom (fewC cs) 0 cs.length && allFrom (fewL ls) 0 ls.length
def taskOk (cs ls:List (List D)) (n:Int):Bool:=within cs.length 1 8 && decide (ls.length ≤ 8) && within n 1 8 && allFrom (kindAt (surfs cs) cs) 0 cs.length && allFrom (loopAt (surfs cs) ls) 0 ls.length
def TaskP (cs ls:List (List D)):Prop:=∃ n,taskOk cs ls n = true
def drv (c:List D) (l:List (List D)) (w:Int):Int × Int × Bool:=drive (lx c 0) (lx c 1) (lx c 2) (ix c 3) l w
def usedFrom (c:List D) (ls sets:List (List D)) (set:Int):Nat → Nat → Int → Int → Int × Bool
 | _,0,_,s=>(s,true)
 | i, k + 1,w,s=>if ix (sets.getD i []) 0 = set then
     (if (drv c (rowAt ls i) w).2.2 then usedFrom c ls sets set (i + 1) k (drv c (rowAt ls i) w).1 (s + (drv c (rowAt ls i) w).2.1) else (0,false)) else usedFrom c ls sets set (i + 1) k w s
def usedAll (c:List D) (ls sets:List (List D)) (set:Int):Int × Bool:=usedFrom c ls sets set 0 ls.length 0 0
def countFrom (sets:List (List D)):Nat → Nat → Int → Int × Bool
 | _,0,n=>(n,true)
 | i,k + 1,n=>if within (ix (sets.getD i []) 0) 0 n then countFrom sets (i + 1) k (max n (ix (sets.getD i []) 0 + 1)) else (0,false)
def sumsFrom (cs ls sets comps:List (List D)):Nat → Nat → Int → Int × Bool
 | _,0,s=>(s,true)
 | i, k + 1,s=>if within (ix (comps.getD i []) 0) 0 (cs.length - 1) then
     (if (usedAll (cs.getD (ix (comps.getD i []) 0).toNat []) ls sets i).2 then sumsFrom cs ls sets comps (i + 1) k (s + (usedAll (cs.getD (ix (comps.getD i []) 0).toNat []) ls sets i).1) else (0,false)) else (0,false)
def possC (cs ls sets comps:List (List D)) (n:Int):Int × Bool:=
 if taskOk cs ls n && decide ((comps.length:Int) ≤ n) && decide (sets.length = ls.length) && (countFrom sets 0 sets.length 0).2 && decide ((countFrom sets 0 sets.length 0).1 = comps.length)
 then sumsFrom cs ls sets comps 0 comps.length 0 else (0,false)
def compAt (cs comps:List (List D)) (j:Nat):Bool:=within (ix (comps.getD j []) 0) 0 (cs.length - 1)
def kindOfSet (cs comps:List (List D)) (s:Int):List D:=cs.getD (ix (comps.getD s.toNat []) 0).toNat []
def refFrom (cs ls sets comps:List (List D)):Nat → Nat → Int → Int → List Int → Int × Int × Bool
 | _,0,used,loss,_=>(used,loss,true)
 | i, k + 1,used,loss,W=>if 0 ≤ ix (sets.getD i []) 0 ∧ ix (sets.getD i []) 0 ≤ used ∧ ix (sets.getD i []) 0 < comps.length ∧
       W.getD (ix (sets.getD i []) 0).toNat 0 + useFrom (lx (kindOfSet cs comps (ix (sets.getD i []) 0)) 2) (rowAt ls i) 0 (rowAt ls i).length ≤ 1000000 then
     refFrom cs ls sets comps (i + 1) k (if ix (sets.getD i []) 0 = used then used + 1 else used) (loss + (drv (kindOfSet cs comps (ix (sets.getD i []) 0)) (rowAt ls i) (W.getD (ix (sets.getD i []) 0).toNat 0)).2.1)
      (W.set (ix (sets.getD i []) 0).toNat (drv (kindOfSet cs comps (ix (sets.getD i []) 0)) (rowAt ls i) (W.getD (ix (sets.getD i []) 0).toNat 0)).1)
   else (0,0,false)
def refAll (cs ls sets comps:List (List D)):Int × Int × Bool:=refFrom cs ls sets comps 0 ls.length 0 0 (List.replicate comps.length 0)
def possR (cs ls sets comps:List (List D)) (n:Int):Int × Bool:=
 if decide ((comps.length:Int) ≤ n) && decide (sets.length = ls.length) && allFrom (compAt cs comps) 0 comps.length && (refAll cs ls sets comps).2.2 && decide ((refAll cs ls sets comps).1 = comps.length) then ((refAll cs ls sets comps).2.1,true) else (0,false)
def G20 (ds:List D):T (List D):=match ds with
 | [cs,ls]=>.leaf [.b (fewOk cs.L ls.L)]
 | _=>.fail
def G20_4 (ds:List D):T (Ex × List D):=match ds with
 | [cs,ls,i]=>.need (yes (cs.L.length ≤ 10 ∧ 0 ≤ i.I ∧ i.I ≤ cs.L.length)) (.ite (allFrom (fewC cs.L) i.I.toNat (cs.L.length - i.I.toNat)) (.leaf (.exit 0,[.l ls.L])) (.leaf (.ret,[.b false])))
 | _=>.fail
def G20_9 (ds:List D):T (Ex × List D):=match ds with
 | [ls,i]=>.need (yes (ls.L.length ≤ 10 ∧ 0 ≤ i.I ∧ i.I ≤ ls.L.length)) (.ite (allFrom (fewL ls.L) i.I.toNat (ls.L.length - i.I.toNat)) (.leaf (.exit 2,[])) (.leaf (.ret,[.b false])))
 | _=>.fail
def G81 (ds:List D):T (List D):=match ds with
 | [a,b,c,d,cs]=>.need (yes (smallRows a.L ∧ smallRows b.L ∧ c.L.length < big ∧ 0 < cs.L.length)) (.leaf [.b (!(compoundOk a.L b.L c.L d.I && decide ((a.L.length:Int) = surfs cs.L)))])
 | _=>.fail
def G100 (ds:List D):T (List D):=match ds with
 | [cs,c']=>.need (yes (smallCs cs.L ∧ 0 < c'.L.length)) (.leaf [.i (firstFrom (fun j=>!kindAt (surfs c'.L) cs.L j) 0 cs.L.length)])
 | _=>.fail
def G100_2 (ds:List D):T (Ex × List D):=match ds with
 | [cs, c',n,i]=>.need (yes (smallCs cs.L ∧ 0 < c'.L.length ∧ n.I = cs.L.length ∧ 0 ≤ i.I ∧ i.I ≤ n.I))
     (.ite (decide (firstFrom (fun j=>!kindAt (surfs c'.L) cs.L j) i.I.toNat (cs.L.length - i.I.toNat) ≥ 0)) (.leaf (.ret,[.i (firstFrom (fun j=>!kindAt (surfs c'.L) cs.L j) i.I.toNat (cs.L.length - i.I.toNat))])) (.leaf (.exit 0,[])))
 | _=>.fail
def G80 (ds:List D):T (List D):=match ds with
 | [cs,c']=>.need (yes (smallCs cs.L ∧ 0 < c'.L.length)) (.leaf [.b (!allFrom (kindAt (surfs c'.L) cs.L) 0 cs.L.length)])
 | _=>.fail
def G83 (ds:List D):T (List D):=match ds with
 | [l,cs]=>.need (yes (0 < cs.L.length ∧ fewN (surfs cs.L))) (.leaf [.b (!loopOk l.L (surfs cs.L))])
 | _=>.fail
def G101 (ds:List D):T (List D):=match ds with
 | [ls,cs]=>.need (yes (ls.L.length < big ∧ 0 < cs.L.length ∧ fewN (surfs cs.L))) (.leaf [.i (firstFrom (fun j=>!loopAt (surfs cs.L) ls.L j) 0 ls.L.length)])
 | _=>.fail
def G101_2 (ds:List D):T (Ex × List D):=match ds with
 | [ls, cs,n,i]=>.need (yes (ls.L.length < big ∧ 0 < cs.L.length ∧ fewN (surfs cs.L) ∧ n.I = ls.L.length ∧ 0 ≤ i.I ∧ i.I ≤ n.I))
     (.ite (decide (firstFrom (fun j=>!loopAt (surfs cs.L) ls.L j) i.I.toNat (ls.L.length - i.I.toNat) ≥ 0)) (.leaf (.ret,[.i (firstFrom (fun j=>!loopAt (surfs cs.L) ls.L j) i.I.toNat (ls.L.length - i.I.toNat))])) (.leaf (.exit 0,[])))
 | _=>.fail
def G82 (ds:List D):T (List D):=match ds with
 | [ls,cs]=>.need (yes (ls.L.length < big ∧ 0 < cs.L.length ∧ fewN (surfs cs.L))) (.leaf [.b (!allFrom (loopAt (surfs cs.L) ls.L) 0 ls.L.length)])
 | _=>.fail
def G52 (ds:List D):T (List D):=match ds with
 | [cs,ls,n]=>.need (yes (smallCs cs.L)) (.leaf [.b (taskOk cs.L ls.L n.I)])
 | _=>.fail
def G54 (ds:List D):T (List D):=match ds with
 | [a, b,c,d,ls,sets,set]=>.need (yes (compoundOk a.L b.L c.L d.I = true ∧ ls.L.length ≤ 8 ∧ sets.L.length = ls.L.length ∧ allFrom (loopAt a.L.length ls.L) 0 ls.L.length = true))
     (.leaf [.i (usedAll [.l a.L,.l b.L,.l c.L,.i d.I] ls.L sets.L set.I).1,.b (usedAll [.l a.L,.l b.L,.l c.L,.i d.I] ls.L sets.L set.I).2])
 | _=>.fail
def G54_3 (ds:List D):T (Ex × List D):=match ds with
 | [sets, set,sum,wear,ls,n,i,a,b,c,d]=>.need (yes (compoundOk a.L b.L c.L d.I = true ∧ ls.L.length ≤ 8 ∧ sets.L.length = ls.L.length ∧ allFrom (loopAt a.L.length ls.L) 0 ls.L.length = true ∧ n.I = ls.L.length ∧ 0 ≤ i.I ∧ i.I ≤ n.I ∧
       0 ≤ wear.I ∧ wear.I ≤ 1000000 ∧ 0 ≤ sum.I ∧ sum.I ≤ 3000000 * i.I))
     (.ite (usedFrom [.l a.L,.l b.L,.l c.L,.i d.I] ls.L sets.L set.I i.I.toNat (ls.L.length - i.I.toNat) wear.I sum.I).2 (.leaf (.exit 0,[.i (usedFrom [.l a.L,.l b.L,.l c.L,.i d.I] ls.L sets.L set.I i.I.toNat (ls.L.length - i.I.toNat) wear.I sum.I).1])) (.leaf (.ret,[.i 0,.b false])))
 | _=>.fail
def G22 (ds:List D):T (List D):=match ds with
 | [cs,ls,n]=>.need (yes (smallCs cs.L ∧ ∀ j,j < ls.L.length → (rowAt ls.L j).length < lim)) (.leaf [.b (taskOk cs.L ls.L n.I)])
 | _=>.fail
def G22_4 (ds:List D):T (Ex × List D):=match ds with
 | [cs,ls,i]=>.need (yes (smallCs cs.L ∧ 0 < cs.L.length ∧ 0 ≤ i.I ∧ i.I ≤ cs.L.length)) (.ite (allFrom (kindAt (surfs cs.L) cs.L) i.I.toNat (cs.L.length - i.I.toNat)) (.leaf (.exit 0,[.l cs.L,.l ls.L])) (.leaf (.ret,[.b false])))
 | _=>.fail
def G22_9 (ds:List D):T (Ex × List D):=match ds with
 | [cs,ls,i]=>.need (yes (0 < cs.L.length ∧ fewN (surfs cs.L) ∧ ls.L.length ≤ 8 ∧ (∀ j,j < ls.L.length → (rowAt ls.L j).length < lim) ∧ 0 ≤ i.I ∧ i.I ≤ ls.L.length)) (.ite (allFrom (loopAt (surfs cs.L) ls.L) i.I.toNat (ls.L.length - i.I.toNat)) (.leaf (.exit 2,[])) (.leaf (.ret,[.b false])))
 | _=>.fail
def G41 (ds:List D):T (List D):=match ds with
 | [cs,ls,n,sets,comps,_]=>.need (yes (taskOk cs.L ls.L n.I = true)) (.leaf [.i (possR cs.L ls.L sets.L comps.L n.I).1,.b (possR cs.L ls.L sets.L comps.L n.I).2])
 | _=>.fail
def G41_4 (ds:List D):T (Ex × List D):=match ds with
 | [cs, ls,i,sets,comps,p]=>.need (yes (cs.L.length ≤ 8 ∧ comps.L.length ≤ 8 ∧ 0 ≤ i.I ∧ i.I ≤ comps.L.length))
     (.ite (allFrom (compAt cs.L comps.L) i.I.toNat (comps.L.length - i.I.toNat)) (.leaf (.exit 0,[.l cs.L,.l ls.L,.l sets.L,.l comps.L,.i p.I])) (.leaf (.ret,[.i 0,.b false])))
 | _=>.fail
def G41_11 (ds:List D):T (Ex × List D):=match ds with
 | [cs, ls,used,loss,m,i,sets,comps,p,row]=>.need (yes (TaskP cs.L ls.L ∧ sets.L.length = ls.L.length ∧ comps.L.length ≤ 8 ∧ allFrom (compAt cs.L comps.L) 0 comps.L.length = true ∧ m.I = comps.L.length ∧ 0 ≤ i.I ∧ i.I ≤ ls.L.length ∧ 0 ≤ used.I ∧ used.I ≤ i.I ∧
       0 ≤ loss.I ∧ loss.I ≤ 3000000 * i.I ∧ row.L = mkI (ints row.L) ∧ (ints row.L).length = comps.L.length ∧ ∀ j,j < comps.L.length → 0 ≤ (ints row.L).getD j 0 ∧ (ints row.L).getD j 0 ≤ 1000000))
     (.ite (refFrom cs.L ls.L sets.L comps.L i.I.toNat (ls.L.length - i.I.toNat) used.I loss.I (ints row.L)).2.2
      (.leaf (.exit 2,[.i (refFrom cs.L ls.L sets.L comps.L i.I.toNat (ls.L.length - i.I.toNat) used.I loss.I (ints row.L)).1,.i (refFrom cs.L ls.L sets.L comps.L i.I.toNat (ls.L.length - i.I.toNat) used.I loss.I (ints row.L)).2.1,.l sets.L,.l comps.L,.i p.I])) (.leaf (.ret,[.i 0,.b false])))
 | _=>.fail
end
noncomputable section
def yE (cs:List (List D)) (n:Int):List D:=if cs.isEmpty then [.i 0,.i n] else [.i 1,.i cs.length,.i n,.l cs]
def ySets (y:List D):List (List D):=if ix y 0 = 0 then [] else lx y 3
def yN (y:List D):Int:=if ix y 0 = 0 then ix y 1 else ix y 2
def useW (F:List (List D) → Int → List (List D)) (cs:List (List D)) (n:Int):Nat → Nat → List (List D)
 | _,0=>[]
 | x,k + 1=>F (cs ++ [[.i x]]) (max n ((x:Int) + 1)) ++ useW F cs n (x + 1) k
def useF (A:Int):Nat → List (List D) → Int → List (List D)
 | 0,cs,n=>[yE cs n]
 | m + 1,cs,n=>useW (useF A m) cs n 0 (min (n + 1) A).toNat
def optF (cs ls sets:List (List D)) (set:Int):Nat → Nat → List (List D)
 | _,0=>[]
 | i,k + 1=>if (usedAll (cs.getD i []) ls sets set).2 then [.i i,.i (usedAll (cs.getD i []) ls sets set).1] :: optF cs ls sets set (i + 1) k else optF cs ls sets set (i + 1) k
def optA (cs ls sets:List (List D)) (set:Int):List (List D):=optF cs ls sets set 0 cs.length
def mkR (x:List D):List D:=[.i (ix x 0),.i (ix x 1)]
def lessO (x o:List D):List D:=if ix x 1 < ix o 1 then mkR x else o
def bestO (o:List D):List (List D) → List D
 | []=>o
 | x :: l=>bestO (lessO x o) l
def bestL (l:List (List D)):List D:=bestO (mkR (l.getD 0 [])) (l.drop 1)
def setsF (cs ls sets:List (List D)) (fd:Bool) (w:Int):Nat → Nat → List (List D) → Int → Option (List (List D) × Int)
 | _,0,cp,s=>some (cp,s)
 | i, k + 1,cp,s=>if (optA cs ls sets i).isEmpty then none else
     if fd && decide (w < s + ix (bestL (optA cs ls sets i)) 1) then none else
      setsF cs ls sets fd w (i + 1) k (cp ++ [[.i (ix (bestL (optA cs ls sets i)) 0)]]) (s + ix (bestL (optA cs ls sets i)) 1)
structure Pl where
 fd:Bool
 sets:List (List D)
 cp:List (List D)
 w : Int
def stepT (cs ls:List (List D)) (p:Pl) (sets:List (List D)) (n:Int):Pl:=
 match setsF cs ls sets p.fd p.w 0 n.toNat [] 0 with
 | none=>p
 | some r=>if !p.fd || decide (r.2 < p.w) || decide (n < p.cp.length) then ⟨true,sets,r.1,r.2⟩ else p
def foldT (cs ls:List (List D)):List (List D) → Pl → Pl
 | [],p=>p
 | y :: ys,p=>foldT cs ls ys (stepT cs ls p (ySets y) (yN y))
def tyreF (cs ls:List (List D)) (A:Int):Pl:=foldT cs ls (useF A ls.length [] 0) ⟨false,[],[],0⟩
end
def s72:Sig:=⟨[.k (.ro [.int .i64])],[(.sl 0 1,[.row [.int .i64]]),(.emp 1,[])]⟩
def s1085:SigW:=⟨[.sl 0 1,.k (.int .i64),.ptr 1 1 0 0,.ptr 2 1 0 0,.ptr 3 1 0 0,.ptr 4 1 0 0],[.row [.int .i64],.box [.k (.int .i64)],.box [.yl],.box [.k (.int .i64)],.box [.fn 85 [] [.ptr 1 1 0 0,.ptr 2 1 0 0,.ptr 3 1 0 0,.ptr 4 1 0 0]]],[(.k .bool,[.none,.box [.k (.int .i64)],.box [.yl],.box [.k (.int .i64)],.box [.fn 85 [] [.ptr 1 1 0 0,.ptr 2 1 0 0,.ptr 3 1 0 0,.ptr 4 1 0 0]]])]⟩
def l1085_4:LSig:=mkLS [0,1,5,21,22] [(38,[(0,.k (.ro [.int .i64])),(1,.k (.int .i64)),(5,.ptr 4 1 0 0),(21,.k (.int .i64)),(22,.k (.int .i64))],[.none,.box [.k (.int .i64)],.box [.yl],.box [.k (.int .i64)],.box [.fn 85 [] [.ptr 1 1 0 0,.ptr 2 1 0 0,.ptr 3 1 0 0,.ptr 4 1 0 0]]])] [(.ret,[8],[(38,[(8,.k .bool)],[.none,.box [.k (.int .i64)],.box [.yl],.box [.k (.int .i64)],.box [.fn 85 [] [.ptr 1 1 0 0,.ptr 2 1 0 0,.ptr 3 1 0 0,.ptr 4 1 0 0]]])]),(.exit 0,[],[(38,[],[.none,.box [.k (.int .i64)],.box [.yl],.box [.k (.int .i64)],.box [.fn 85 [] [.ptr 1 1 0 0,.ptr 2 1 0 0,.ptr 3 1 0 0,.ptr 4 1 0 0]]])])]
def s85:SigW:=⟨[.nils,.k (.int .i64),.ptr 0 1 0 0,.ptr 1 1 0 0,.ptr 2 1 0 0,.ptr 3 1 0 0],[.box [.k (.int .i64)],.box [.yl],.box [.k (.int .i64)],.box [.fn 85 [] [.ptr 0 1 0 0,.ptr 1 1 0 0,.ptr 2 1 0 0,.ptr 3 1 0 0]]],[(.k .bool,[.box [.k (.int .i64)],.box [.yl],.box [.k (.int .i64)],.box [.fn 85 [] [.ptr 0 1 0 0,.ptr 1 1 0 0,.ptr 2 1 0 0,.ptr 3 1 0 0]]])]⟩
def l85_4:LSig:=mkLS [0,1,5,21,22] [(38,[(0,.k (.ro [.int .i64])),(1,.k (.int .i64)),(5,.ptr 3 1 0 0),(21,.k (.int .i64)),(22,.k (.int .i64))],[.box [.k (.int .i64)],.box [.yl],.box [.k (.int .i64)],.box [.fn 85 [] [.ptr 0 1 0 0,.ptr 1 1 0 0,.ptr 2 1 0 0,.ptr 3 1 0 0]]])] [(.ret,[8],[(38,[(8,.k .bool)],[.box [.k (.int .i64)],.box [.yl],.box [.k (.int .i64)],.box [.fn 85 [] [.ptr 0 1 0 0,.ptr 1 1 0 0,.ptr 2 1 0 0,.ptr 3 1 0 0]]])]),(.exit 0,[],[(38,[],[.box [.k (.int .i64)],.box [.yl],.box [.k (.int .i64)],.box [.fn 85 [] [.ptr 0 1 0 0,.ptr 1 1 0 0,.ptr 2 1 0 0,.ptr 3 1 0 0]]])])]
def s84:SigI:=⟨[.yl,.ptr 0 1 0 0,.ptr 1 1 0 0],[.box [.k (.int .i64)],.box [.k (.int .i64)]]⟩
def y84:YS where
 fit args h:=match args with
  | [.nils,.int .i64 n]=>(match h with
    | []=>some [.i 0,.i n]
    | _=>none)
  | _ => (match fitsVs [.sl 0 1,.k (.int .i64)] args,fitsH [.row [.int .i64]] h with
    | some x,some y=>some (.i 1 :: (x ++ y))
    | _,_=>none)
 head d:=match (d.headD default).I == 0 with
  | true=>([.nils,.int .i64 (d.getD 1 default).I],[])
  | false=>((headVs [.sl 0 1,.k (.int .i64)] d.tail).1,(headH [.row [.int .i64]] (headVs [.sl 0 1,.k (.int .i64)] d.tail).2).1)
 give:=false
def s53:Sig:=⟨[.k (.int .i64),.k (.int .i64)],[(.fn 84 [] [.ptr 0 1 0 0,.ptr 1 1 0 0],[.box [.k (.int .i64)],.box [.k (.int .i64)]])]⟩
def s56:Sig:=⟨[.agg [.k (.int .i64),.k (.int .i64)],.agg [.k (.int .i64),.k (.int .i64)]],[(.k .bool,[])]⟩
def s55:Sig:=⟨[.k (.ro [.int .i64,.int .i64]),.fn 56 [] []],[(.agg [.k (.int .i64),.k (.int .i64)],[])]⟩
def l55_3:LSig:=mkLS [1,4,5,12,13,14] [(25,[(1,.fn 56 [] []),(4,.ptr 0 2 0 0),(5,.ptr 1 2 0 0),(12,.k (.ro [.int .i64,.int .i64])),(13,.k (.int .i64)),(14,.k (.int .i64))],[.box [.k (.int .i64),.k (.int .i64)],.box [.k (.int .i64),.k (.int .i64)]])] [(.exit 0,[4,5],[(25,[(4,.ptr 0 2 0 0),(5,.ptr 1 2 0 0)],[.box [.k (.int .i64),.k (.int .i64)],.box [.k (.int .i64),.k (.int .i64)]])])]
noncomputable section
def useP (p:Nat) (L A n:Int) (cs:List (List D)):Prop:=((cs.length:Int) ≤ L ∧ L ≤ 8 ∧ L - cs.length < p) ∧ (1 ≤ A ∧ A ≤ 8) ∧ 0 ≤ n ∧ n ≤ 8
def useA (L A n:Int) (cs:List (List D)):List (List D):=useF A (L.toNat - cs.length) cs n
def G85 (p q:Nat) (ds:List D) (lg:List (List D)):T (List D × List (List D)):=match ds with
 | [n, L,A]=>.need (yes (useP p L.I A.I n.I [] ∧ lg.length ≤ q))
     (.leaf ([.b (decide (lg.length + (useA L.I A.I n.I []).length ≤ q)),.i L.I,.i A.I],(useA L.I A.I n.I []).take (q + 1 - lg.length)))
 | _=>.fail
def G1085 (p q:Nat) (ds:List D) (lg:List (List D)):T (List D × List (List D)):=match ds with
 | [s, n,cs,L,A]=>.need (yes ((s.I = cs.L.length ∧ 0 < cs.L.length) ∧ useP p L.I A.I n.I cs.L ∧ lg.length ≤ q))
     (.leaf ([.b (decide (lg.length + (useA L.I A.I n.I cs.L).length ≤ q)),.i L.I,.i A.I],(useA L.I A.I n.I cs.L).take (q + 1 - lg.length)))
 | _=>.fail
def useR (L A n b x:Int) (cs:List (List D)):List (List D):=useW (useF A (L.toNat - cs.length - 1)) cs n x.toNat (b - x).toNat
def G85_4 (p q:Nat) (ds:List D):T (Ex × List D):=match ds with
 | [g, cs,n,b,x,L,A]=>.need (yes (useP (p + 1) L.I A.I n.I cs.L ∧ (cs.L.length:Int) < L.I ∧ g.L.length ≤ q ∧ (0 ≤ b.I ∧ b.I ≤ A.I) ∧ 0 ≤ x.I ∧ x.I ≤ b.I))
     (.ite (decide (q < g.L.length + (useR L.I A.I n.I b.I x.I cs.L).length))
      (.leaf (.ret,[.l (g.L ++ (useR L.I A.I n.I b.I x.I cs.L).take (q + 1 - g.L.length)),.b false,.i L.I,.i A.I]))
      (.leaf (.exit 0,[.l (g.L ++ useR L.I A.I n.I b.I x.I cs.L),.i L.I,.i A.I])))
 | _=>.fail
def G84 (ds:List D):T (List (List D)):=match ds with
 | [L,A]=>.need (yes ((0 ≤ L.I ∧ L.I ≤ 8) ∧ 1 ≤ A.I ∧ A.I ≤ 8)) (.leaf (useF A.I L.I.toNat [] 0))
 | _=>.fail
def G53 (ds:List D):T (List D):=match ds with
 | [L,A]=>.leaf [.i L.I,.i A.I]
 | _=>.fail
def G56 (ds:List D):T (List D):=match ds with
 | [_,x,_,y]=>.leaf [.b (decide (x.I < y.I))]
 | _=>.fail
def G55 (ds:List D):T (List D):=match ds with
 | [l]=>.need (yes (0 < l.L.length ∧ l.L.length ≤ 1000)) (.leaf [.i (ix (bestL l.L) 0),.i (ix (bestL l.L) 1)])
 | _=>.fail
def mkO (a b:D):List D:=[.i a.I,.i b.I]
def G55_3 (ds:List D):T (Ex × List D):=match ds with
 | [l, n,i,a,b,c,d]=>.need (yes (n.I = l.L.length ∧ n.I ≤ 1000 ∧ 0 ≤ i.I ∧ i.I ≤ n.I))
     (.leaf (.exit 0,[.i a.I,.i b.I,.i (ix (bestO (mkO c d) (l.L.drop i.I.toNat)) 0),.i (ix (bestO (mkO c d) (l.L.drop i.I.toNat)) 1)]))
 | _=>.fail
def sp1085:SpL:=[(72,mkF s72 Gcl)]
def lp1085 (p q:Nat):LpL:=[(4,mkLY 5 l1085_4 (G85_4 p q))]
def sy1085 (p q:Nat):SyL:=[(85,mkFYW s1085 (G1085 p q))]
def tab1085 (p q:Nat):Tab:=mkTabYY sp1085 (lp1085 p q) [] y84 q (sy1085 p q)
def sp55:SpL:=[(56,mkF s56 G56)]
def lp55:LpL:=[(3,mkL l55_3 G55_3)]
def tab55:Tab:=mkTab sp55 lp55 []
def lp85 (p q:Nat):LpL:=[(4,mkLY 4 l85_4 (G85_4 p q))]
def tab85 (p q:Nat):Tab:=mkTabYY sp1085 (lp85 p q) [] y84 q (sy1085 p q)
def sy84 (q:Nat):SyL:=[(85,mkFYW s85 (G85 9 q))]
def tab84 (q:Nat):Tab:=mkTabYY [] [] [] y84 q (sy84 q)
end
set_option linter.unusedVariables false
set_option maxRecDepth 100000
theorem t1085 (p:Nat) (q1:Nat) (lg:List (List D)) (s n c a b:D):(fnTYW C (tab1085 p q1) 85 s1085 [s,n,c,a,b] lg).run =
 T.run (T.ite ((s.I.toNat:Int) == a.I) (T.leaf ([D.b !List.length lg == (tab1085 p q1).q,D.i a.I,D.i b.I],List.drop (List.length lg) (lg ++ [D.i 1 :: ([D.i (s.I.toNat:Int)] ++ ([D.i n.I] ++ []) ++ ([D.l c.L] ++ []))]))) (T.need (decide (s.I.toNat ≤ c.L.length)) (T.need (yes (useP (p + 1) a.I b.I n.I (List.take s.I.toNat c.L) ∧ (↑(List.length (List.take s.I.toNat c.L)):Int) < a.I ∧ List.length lg ≤ q1 ∧ ((0:Int) ≤ minI (IntKind.i64.wrap (n.I + (1:Int))) b.I ∧ minI (IntKind.i64.wrap (n.I + (1:Int))) b.I ≤ b.I) ∧ (0:Int) ≤ (0:Int) ∧ (0:Int) ≤ minI (IntKind.i64.wrap (n.I + (1:Int))) b.I)) (T.ite (decide (q1 < List.length lg + List.length (useR a.I b.I n.I (minI (IntKind.i64.wrap (n.I + (1:Int))) b.I) (0:Int) (List.take s.I.toNat c.L)))) (T.leaf ([D.b false,D.i a.I,D.i b.I],List.drop (List.length lg) (lg ++ List.take (q1 + 1 - List.length lg) (useR a.I b.I n.I (minI (IntKind.i64.wrap (n.I + (1:Int))) b.I) (0:Int) (List.take s.I.toNat c.L))))) (T.leaf ([D.b true,D.i a.I,D.i b.I],List.drop (List.length lg) (lg ++ useR a.I b.I n.I (minI (IntKind.i64.wrap (n.I + (1:Int))) b.I) (0:Int) (List.take s.I.toNat c.L)))))))):=by kernel_rfl
theorem t1085_4 (p:Nat) (q1:Nat) (g c n b x l a:D):(roundTY C (tab1085 p q1) 85 (loopOf C.P 85 4) 5 l1085_4 [g,c,n,b,x,l,a]).run =
 T.run (T.ite (decide (x.I < b.I)) (T.need (yes (c.L.length ≤ 1073741824)) (T.ite (List.isEmpty c.L) (T.need true (T.ite false T.fail (T.need true (T.need (yes (((↑1:Int) = (↑(List.length (List.take (List.length [[D.i x.I]]) [[D.i x.I]])):Int) ∧ 0 < List.length (List.take (List.length [[D.i x.I]]) [[D.i x.I]])) ∧ useP p l.I a.I (maxI n.I (IntKind.i64.wrap (x.I + (1:Int)))) (List.take (List.length [[D.i x.I]]) [[D.i x.I]]) ∧ g.L.length ≤ q1)) (T.ite (!decide (g.L.length + List.length (useA l.I a.I (maxI n.I (IntKind.i64.wrap (x.I + (1:Int)))) (List.take (List.length [[D.i x.I]]) [[D.i x.I]])) ≤ q1)) (T.leaf (Rd.out Ex.ret [D.l (g.L ++ List.take (q1 + 1 - g.L.length) (useA l.I a.I (maxI n.I (IntKind.i64.wrap (x.I + (1:Int)))) (List.take (List.length [[D.i x.I]]) [[D.i x.I]]))),D.b false,D.i l.I,D.i a.I])) (T.leaf (Rd.again [D.l (g.L ++ List.take (q1 + 1 - g.L.length) (useA l.I a.I (maxI n.I (IntKind.i64.wrap (x.I + (1:Int)))) (List.take (List.length [[D.i x.I]]) [[D.i x.I]]))),D.l c.L,D.i n.I,D.i b.I,D.i (IntKind.i64.wrap (x.I + (1:Int))),D.i l.I,D.i a.I]))))))) (T.need true (T.ite false (T.need (yes (((↑(Int.toNat (c.L.length:Int)):Int) = (c.L.length:Int) ∧ 0 < c.L.length) ∧ useP p l.I a.I (maxI n.I (IntKind.i64.wrap (x.I + (1:Int)))) c.L ∧ g.L.length ≤ q1)) (T.ite (!decide (g.L.length + List.length (useA l.I a.I (maxI n.I (IntKind.i64.wrap (x.I + (1:Int)))) c.L) ≤ q1)) (T.leaf (Rd.out Ex.ret [D.l (g.L ++ List.take (q1 + 1 - g.L.length) (useA l.I a.I (maxI n.I (IntKind.i64.wrap (x.I + (1:Int)))) c.L)),D.b false,D.i l.I,D.i a.I])) (T.leaf (Rd.again [D.l (g.L ++ List.take (q1 + 1 - g.L.length) (useA l.I a.I (maxI n.I (IntKind.i64.wrap (x.I + (1:Int)))) c.L)),D.l c.L,D.i n.I,D.i b.I,D.i (IntKind.i64.wrap (x.I + (1:Int))),D.i l.I,D.i a.I])))) (T.need (decide (Int.toNat (c.L.length:Int) ≤ c.L.length ∧ Int.toNat (c.L.length:Int) + 1 ≤ 2 ^ 62 ∧ (Int.toNat (c.L.length:Int) + 1) * Try.prog.types[3].bytes ≤ 2 ^ 47)) (T.need (yes (((↑(Int.toNat (c.L.length:Int) + 1):Int) = (↑(List.length (List.take (Int.toNat (c.L.length:Int)) c.L ++ List.take (List.length [[D.i x.I]]) [[D.i x.I]])):Int) ∧ 0 < List.length (List.take (Int.toNat (c.L.length:Int)) c.L ++ List.take (List.length [[D.i x.I]]) [[D.i x.I]])) ∧ useP p l.I a.I (maxI n.I (IntKind.i64.wrap (x.I + (1:Int)))) (List.take (Int.toNat (c.L.length:Int)) c.L ++ List.take (List.length [[D.i x.I]]) [[D.i x.I]]) ∧ g.L.length ≤ q1)) (T.ite (!decide (g.L.length + List.length (useA l.I a.I (maxI n.I (IntKind.i64.wrap (x.I + (1:Int)))) (List.take (Int.toNat (c.L.length:Int)) c.L ++ List.take (List.length [[D.i x.I]]) [[D.i x.I]])) ≤ q1)) (T.leaf (Rd.out Ex.ret [D.l (g.L ++ List.take (q1 + 1 - g.L.length) (useA l.I a.I (maxI n.I (IntKind.i64.wrap (x.I + (1:Int)))) (List.take (Int.toNat (c.L.length:Int)) c.L ++ List.take (List.length [[D.i x.I]]) [[D.i x.I]]))),D.b false,D.i l.I,D.i a.I])) (T.leaf (Rd.again [D.l (g.L ++ List.take (q1 + 1 - g.L.length) (useA l.I a.I (maxI n.I (IntKind.i64.wrap (x.I + (1:Int)))) (List.take (Int.toNat (c.L.length:Int)) c.L ++ List.take (List.length [[D.i x.I]]) [[D.i x.I]]))),D.l c.L,D.i n.I,D.i b.I,D.i (IntKind.i64.wrap (x.I + (1:Int))),D.i l.I,D.i a.I]))))))))) (T.leaf (Rd.out (Ex.exit 0) [D.l g.L,D.i l.I,D.i a.I]))):=by kernel_rfl
theorem t85 (p:Nat) (q1:Nat) (lg:List (List D)) (n a b:D):(fnTYW C (tab85 p q1) 85 s85 [n,a,b] lg).run =
 T.run (T.ite ((↑0:Int) == a.I) (T.leaf ([D.b !List.length lg == (tab85 p q1).q,D.i a.I,D.i b.I],List.drop (List.length lg) (lg ++ [[D.i 0,D.i n.I]]))) (T.need (yes (useP (p + 1) a.I b.I n.I [] ∧ (↑(List.length ([]:List (List D))):Int) < a.I ∧ List.length lg ≤ q1 ∧ ((0:Int) ≤ minI (IntKind.i64.wrap (n.I + (1:Int))) b.I ∧ minI (IntKind.i64.wrap (n.I + (1:Int))) b.I ≤ b.I) ∧ (0:Int) ≤ (0:Int) ∧ (0:Int) ≤ minI (IntKind.i64.wrap (n.I + (1:Int))) b.I)) (T.ite (decide (q1 < List.length lg + List.length (useR a.I b.I n.I (minI (IntKind.i64.wrap (n.I + (1:Int))) b.I) (0:Int) []))) (T.leaf ([D.b false,D.i a.I,D.i b.I],List.drop (List.length lg) (lg ++ List.take (q1 + 1 - List.length lg) (useR a.I b.I n.I (minI (IntKind.i64.wrap (n.I + (1:Int))) b.I) (0:Int) [])))) (T.leaf ([D.b true,D.i a.I,D.i b.I],List.drop (List.length lg) (lg ++ useR a.I b.I n.I (minI (IntKind.i64.wrap (n.I + (1:Int))) b.I) (0:Int) [])))))):=by kernel_rfl
theorem t85_4 (p:Nat) (q1:Nat) (g c n b x l a:D):(roundTY C (tab85 p q1) 85 (loopOf C.P 85 4) 4 l85_4 [g,c,n,b,x,l,a]).run =
 T.run (T.ite (decide (x.I < b.I)) (T.need (yes (c.L.length ≤ 1073741824)) (T.ite (List.isEmpty c.L) (T.need true (T.ite false T.fail (T.need true (T.need (yes (((↑1:Int) = (↑(List.length (List.take (List.length [[D.i x.I]]) [[D.i x.I]])):Int) ∧ 0 < List.length (List.take (List.length [[D.i x.I]]) [[D.i x.I]])) ∧ useP p l.I a.I (maxI n.I (IntKind.i64.wrap (x.I + (1:Int)))) (List.take (List.length [[D.i x.I]]) [[D.i x.I]]) ∧ g.L.length ≤ q1)) (T.ite (!decide (g.L.length + List.length (useA l.I a.I (maxI n.I (IntKind.i64.wrap (x.I + (1:Int)))) (List.take (List.length [[D.i x.I]]) [[D.i x.I]])) ≤ q1)) (T.leaf (Rd.out Ex.ret [D.l (g.L ++ List.take (q1 + 1 - g.L.length) (useA l.I a.I (maxI n.I (IntKind.i64.wrap (x.I + (1:Int)))) (List.take (List.length [[D.i x.I]]) [[D.i x.I]]))),D.b false,D.i l.I,D.i a.I])) (T.leaf (Rd.again [D.l (g.L ++ List.take (q1 + 1 - g.L.length) (useA l.I a.I (maxI n.I (IntKind.i64.wrap (x.I + (1:Int)))) (List.take (List.length [[D.i x.I]]) [[D.i x.I]]))),D.l c.L,D.i n.I,D.i b.I,D.i (IntKind.i64.wrap (x.I + (1:Int))),D.i l.I,D.i a.I]))))))) (T.need true (T.ite false (T.need (yes (((↑(Int.toNat (c.L.length:Int)):Int) = (c.L.length:Int) ∧ 0 < c.L.length) ∧ useP p l.I a.I (maxI n.I (IntKind.i64.wrap (x.I + (1:Int)))) c.L ∧ g.L.length ≤ q1)) (T.ite (!decide (g.L.length + List.length (useA l.I a.I (maxI n.I (IntKind.i64.wrap (x.I + (1:Int)))) c.L) ≤ q1)) (T.leaf (Rd.out Ex.ret [D.l (g.L ++ List.take (q1 + 1 - g.L.length) (useA l.I a.I (maxI n.I (IntKind.i64.wrap (x.I + (1:Int)))) c.L)),D.b false,D.i l.I,D.i a.I])) (T.leaf (Rd.again [D.l (g.L ++ List.take (q1 + 1 - g.L.length) (useA l.I a.I (maxI n.I (IntKind.i64.wrap (x.I + (1:Int)))) c.L)),D.l c.L,D.i n.I,D.i b.I,D.i (IntKind.i64.wrap (x.I + (1:Int))),D.i l.I,D.i a.I])))) (T.need (decide (Int.toNat (c.L.length:Int) ≤ c.L.length ∧ Int.toNat (c.L.length:Int) + 1 ≤ 2 ^ 62 ∧ (Int.toNat (c.L.length:Int) + 1) * Try.prog.types[3].bytes ≤ 2 ^ 47)) (T.need (yes (((↑(Int.toNat (c.L.length:Int) + 1):Int) = (↑(List.length (List.take (Int.toNat (c.L.length:Int)) c.L ++ List.take (List.length [[D.i x.I]]) [[D.i x.I]])):Int) ∧ 0 < List.length (List.take (Int.toNat (c.L.length:Int)) c.L ++ List.take (List.length [[D.i x.I]]) [[D.i x.I]])) ∧ useP p l.I a.I (maxI n.I (IntKind.i64.wrap (x.I + (1:Int)))) (List.take (Int.toNat (c.L.length:Int)) c.L ++ List.take (List.length [[D.i x.I]]) [[D.i x.I]]) ∧ g.L.length ≤ q1)) (T.ite (!decide (g.L.length + List.length (useA l.I a.I (maxI n.I (IntKind.i64.wrap (x.I + (1:Int)))) (List.take (Int.toNat (c.L.length:Int)) c.L ++ List.take (List.length [[D.i x.I]]) [[D.i x.I]])) ≤ q1)) (T.leaf (Rd.out Ex.ret [D.l (g.L ++ List.take (q1 + 1 - g.L.length) (useA l.I a.I (maxI n.I (IntKind.i64.wrap (x.I + (1:Int)))) (List.take (Int.toNat (c.L.length:Int)) c.L ++ List.take (List.length [[D.i x.I]]) [[D.i x.I]]))),D.b false,D.i l.I,D.i a.I])) (T.leaf (Rd.again [D.l (g.L ++ List.take (q1 + 1 - g.L.length) (useA l.I a.I (maxI n.I (IntKind.i64.wrap (x.I + (1:Int)))) (List.take (Int.toNat (c.L.length:Int)) c.L ++ List.take (List.length [[D.i x.I]]) [[D.i x.I]]))),D.l c.L,D.i n.I,D.i b.I,D.i (IntKind.i64.wrap (x.I + (1:Int))),D.i l.I,D.i a.I]))))))))) (T.leaf (Rd.out (Ex.exit 0) [D.l g.L,D.i l.I,D.i a.I]))):=by kernel_rfl
theorem t72 (l:D):(fnT C (mkTab [] [] []) 72 s72 [l]).run =
 T.run (T.need (!List.isEmpty l.L) (T.ite (List.isEmpty l.L) (T.leaf [D.i 1]) (T.need (decide (l.L.length ≤ 2 ^ 62 ∧ l.L.length * Try.prog.types[3].bytes ≤ 2 ^ 47)) (T.leaf [D.i 0,D.i (l.L.length:Int),D.l l.L])))):=by kernel_rfl
theorem t53 (l a:D):(fnT C (mkTab [] [] []) 53 s53 [l,a]).run =
 T.run (T.leaf [D.i l.I,D.i a.I]):=by kernel_rfl
theorem t56 (a b c d:D):(fnT C (mkTab [] [] []) 56 s56 [a,b,c,d]).run =
 T.run (T.leaf [D.b (decide (b.I < d.I))]):=by kernel_rfl
theorem t55 (l:D):(fnT C tab55 55 s55 [l]).run =
 T.run (T.need (decide ((0:Int) ≤ (0:Int) ∧ (0:Int) < (l.L.length:Int))) (T.need (decide ((0:Int) ≤ (1:Int) ∧ (1:Int) ≤ (l.L.length:Int))) (T.need (yes ((↑(List.length (List.take (l.L.length - Int.toNat (1:Int)) (List.drop (Int.toNat (1:Int)) l.L))):Int) = (↑(List.length (List.take (l.L.length - Int.toNat (1:Int)) (List.drop (Int.toNat (1:Int)) l.L))):Int) ∧ (↑(List.length (List.take (l.L.length - Int.toNat (1:Int)) (List.drop (Int.toNat (1:Int)) l.L))):Int) ≤ (1000:Int) ∧ (0:Int) ≤ (0:Int) ∧ (0:Int) ≤ (↑(List.length (List.take (l.L.length - Int.toNat (1:Int)) (List.drop (Int.toNat (1:Int)) l.L))):Int))) (T.leaf [D.i (ix (bestO (mkO (D.i (D.I (List.getD (List.getD l.L (Int.toNat (0:Int)) []) 0 default))) (D.i (D.I (List.getD (List.getD l.L (Int.toNat (0:Int)) []) (0 + 1) default)))) (List.drop (Int.toNat (0:Int)) (List.take (l.L.length - Int.toNat (1:Int)) (List.drop (Int.toNat (1:Int)) l.L)))) 0),D.i (ix (bestO (mkO (D.i (D.I (List.getD (List.getD l.L (Int.toNat (0:Int)) []) 0 default))) (D.i (D.I (List.getD (List.getD l.L (Int.toNat (0:Int)) []) (0 + 1) default)))) (List.drop (Int.toNat (0:Int)) (List.take (l.L.length - Int.toNat (1:Int)) (List.drop (Int.toNat (1:Int)) l.L)))) 1)])))):=by kernel_rfl
theorem t55_3 (l n i a b c d:D):(roundT C tab55 55 (loopOf C.P 55 3) l55_3 [l,n,i,a,b,c,d]).run =
 T.run (T.ite (decide (i.I < n.I)) (T.need (decide ((0:Int) ≤ i.I ∧ i.I < (l.L.length:Int))) (T.ite (decide (D.I (List.getD (List.getD l.L i.I.toNat []) (0 + 1) default) < d.I)) (T.leaf (Rd.again [D.l l.L,D.i n.I,D.i (IntKind.i64.wrap (i.I + (1:Int))),D.i a.I,D.i b.I,D.i (D.I (List.getD (List.getD l.L i.I.toNat []) 0 default)),D.i (D.I (List.getD (List.getD l.L i.I.toNat []) (0 + 1) default))])) (T.leaf (Rd.again [D.l l.L,D.i n.I,D.i (IntKind.i64.wrap (i.I + (1:Int))),D.i a.I,D.i b.I,D.i c.I,D.i d.I])))) (T.leaf (Rd.out (Ex.exit 0) [D.i a.I,D.i b.I,D.i c.I,D.i d.I]))):=by kernel_rfl
theorem t84 (q1:Nat) (l a:D):(fnTY C (tab84 q1) 84 s84 [l,a]).run =
 T.run (T.need (yes (useP 9 l.I a.I (0:Int) [] ∧ 0 ≤ q1)) (T.leaf ([] ++ List.take (q1 + 1 - 0) (useA l.I a.I (0:Int) [])))):=by kernel_rfl
set_option linter.unusedVariables false
set_option maxRecDepth 100000
theorem t47 (a b c:D):fnT C tab47 47 s47 [a,b,c] =
 T.ite (decide (a.I ≥ b.I)) (T.leaf [D.b (decide (a.I ≤ c.I))]) (T.leaf [D.b false]):=by kernel_rfl
theorem t50 (a b c:D):fnT C tab50 50 s50 [a,b,c] =
 T.ite (decide (a.I ≥ b.I)) (T.leaf [D.b (decide (a.I ≤ c.I))]) (T.leaf [D.b false]):=by kernel_rfl
theorem t75 (a:D):fnT C tab75 75 s75 [a] =
 T.need (yes (a.L = a.L ∧ (a.L.length:Int) = (a.L.length:Int) ∧ (0:Int) ≤ (0:Int) ∧ (0:Int) ≤ (a.L.length:Int) ∧ a.L.length < big)) (T.ite (allFrom (knotAt a.L) (Int.toNat (0:Int)) (a.L.length - Int.toNat (0:Int))) (T.leaf [D.b (within (a.L.length:Int) (1:Int) (10:Int))]) (T.leaf [D.b false])):=by kernel_rfl
theorem t75_2 (a b c d:D):roundT C tab75 75 (loopOf C.P 75 2) l75_2 [a,b,c,d] =
 T.ite (decide (d.I < c.I)) (T.need (decide ((0:Int) ≤ d.I ∧ d.I < (b.L.length:Int))) (T.ite (!within (D.I (List.getD (List.getD b.L d.I.toNat []) 0 default)) (-40:Int) (80:Int)) (T.leaf (Rd.out Ex.ret [D.b false])) (T.ite (!within (D.I (List.getD (List.getD b.L d.I.toNat []) (0 + 1) default)) (0:Int) (1000:Int)) (T.leaf (Rd.out Ex.ret [D.b false])) (T.ite (decide (d.I > (0:Int))) (T.need (decide ((0:Int) ≤ IntKind.i64.wrap (d.I - (1:Int)) ∧ IntKind.i64.wrap (d.I - (1:Int)) < (a.L.length:Int))) (T.ite (decide (D.I (List.getD (List.getD b.L d.I.toNat []) 0 default) ≤ D.I (List.getD (List.getD a.L (Int.toNat (IntKind.i64.wrap (d.I - (1:Int)))) []) 0 default))) (T.leaf (Rd.out Ex.ret [D.b false])) (T.leaf (Rd.again [D.l a.L,D.l b.L,D.i c.I,D.i (IntKind.i64.wrap (d.I + (1:Int)))])))) (T.leaf (Rd.again [D.l a.L,D.l b.L,D.i c.I,D.i (IntKind.i64.wrap (d.I + (1:Int)))])))))) (T.leaf (Rd.out (Ex.exit 0) [D.l a.L])):=by kernel_rfl
theorem t74 (a:D):fnT C tab74 74 s74 [a] =
 T.need (yes (a.L.length < big)) (T.leaf [D.b !rowOk a.L]):=by kernel_rfl
theorem t78 (a:D):fnT C tab78 78 s78 [a] =
 T.leaf [D.b !within a.I (0:Int) (1000:Int)]:=by kernel_rfl
theorem t98 (a:D):fnT C tab98 98 s98 [a] =
 T.need (yes (smallRows a.L ∧ (a.L.length:Int) = (a.L.length:Int) ∧ (0:Int) ≤ (0:Int) ∧ (0:Int) ≤ (a.L.length:Int))) (T.ite (decide (firstFrom (fun j=>!rowOk (rowAt a.L j)) (Int.toNat (0:Int)) (a.L.length - Int.toNat (0:Int)) ≥ (0:Int))) (T.leaf [D.i (firstFrom (fun j=>!rowOk (rowAt a.L j)) (Int.toNat (0:Int)) (a.L.length - Int.toNat (0:Int)))]) (T.leaf [D.i (-1:Int)])):=by kernel_rfl
theorem t98_2 (a b c:D):roundT C tab98 98 (loopOf C.P 98 2) l98_2 [a,b,c] =
 T.ite (decide (c.I < b.I)) (T.need (decide ((0:Int) ≤ c.I ∧ c.I < (a.L.length:Int))) (T.need (yes (List.length (D.L (List.getD (List.getD a.L c.I.toNat []) 0 default)) < big)) (T.ite (!rowOk (D.L (List.getD (List.getD a.L c.I.toNat []) 0 default))) (T.leaf (Rd.out Ex.ret [D.i c.I])) (T.leaf (Rd.again [D.l a.L,D.i b.I,D.i (IntKind.i64.wrap (c.I + (1:Int)))]))))) (T.leaf (Rd.out (Ex.exit 0) [])):=by kernel_rfl
theorem t99 (a:D):fnT C tab99 99 s99 [a] =
 T.need (yes (a.L.length < big ∧ (a.L.length:Int) = (a.L.length:Int) ∧ (0:Int) ≤ (0:Int) ∧ (0:Int) ≤ (a.L.length:Int))) (T.ite (decide (firstFrom (fun j=>!within (ix (List.getD a.L j []) 0) (0:Int) (1000:Int)) (Int.toNat (0:Int)) (a.L.length - Int.toNat (0:Int)) ≥ (0:Int))) (T.leaf [D.i (firstFrom (fun j=>!within (ix (List.getD a.L j []) 0) (0:Int) (1000:Int)) (Int.toNat (0:Int)) (a.L.length - Int.toNat (0:Int)))]) (T.leaf [D.i (-1:Int)])):=by kernel_rfl
theorem t99_2 (a b c:D):roundT C tab99 99 (loopOf C.P 99 2) l99_2 [a,b,c] =
 T.ite (decide (c.I < b.I)) (T.need (decide ((0:Int) ≤ c.I ∧ c.I < (a.L.length:Int))) (T.ite (!within (D.I (List.getD (List.getD a.L c.I.toNat []) 0 default)) (0:Int) (1000:Int)) (T.leaf (Rd.out Ex.ret [D.i c.I])) (T.leaf (Rd.again [D.l a.L,D.i b.I,D.i (IntKind.i64.wrap (c.I + (1:Int)))])))) (T.leaf (Rd.out (Ex.exit 0) [])):=by kernel_rfl
theorem t76 (a:D):fnT C tab76 76 s76 [a] =
 T.need (yes (smallRows a.L)) (T.leaf [D.b (decide (firstFrom (fun j=>!rowOk (rowAt a.L j)) 0 a.L.length ≥ (0:Int)))]):=by kernel_rfl
theorem t77 (a:D):fnT C tab77 77 s77 [a] =
 T.need (yes (a.L.length < big)) (T.leaf [D.b (decide (firstFrom (fun j=>!within (ix (List.getD a.L j []) 0) (0:Int) (1000:Int)) 0 a.L.length ≥ (0:Int)))]):=by kernel_rfl
theorem t46 (a b c d:D):fnT C tab46 46 s46 [a,b,c,d] =
 T.ite (!within (a.L.length:Int) (1:Int) (8:Int)) (T.leaf [D.b false]) (T.ite ((b.L.length:Int) != (a.L.length:Int)) (T.leaf [D.b false]) (T.ite ((c.L.length:Int) != (a.L.length:Int)) (T.leaf [D.b false]) (T.ite (!within d.I (0:Int) (1000:Int)) (T.leaf [D.b false]) (T.need (yes (smallRows a.L)) (T.ite (!!rowsOk a.L) (T.need (yes (smallRows b.L)) (T.ite (!!rowsOk b.L) (T.need (yes (c.L.length < big)) (T.leaf [D.b !!wearOk c.L])) (T.leaf [D.b false]))) (T.leaf [D.b false])))))):=by kernel_rfl
theorem t79 (a b c d e f g:D):fnT C tab79 79 s79 [a,b,c,d,e,f,g] =
 T.need (decide ((0:Int) ≤ e.I ∧ e.I < (a.L.length:Int))) (T.ite g.B (T.need (decide ((0:Int) ≤ e.I ∧ e.I < (b.L.length:Int))) (T.need (decide ((0:Int) ≤ (0:Int) ∧ (0:Int) < (↑(List.length (D.L (List.getD (List.getD b.L e.I.toNat []) 0 default))):Int))) (T.ite (decide (f.I ≤ D.I (List.getD (List.getD (D.L (List.getD (List.getD b.L e.I.toNat []) 0 default)) (Int.toNat (0:Int)) []) 0 default))) (T.need (decide ((0:Int) ≤ (0:Int) ∧ (0:Int) < (↑(List.length (D.L (List.getD (List.getD b.L e.I.toNat []) 0 default))):Int))) (T.leaf [D.i (D.I (List.getD (List.getD (D.L (List.getD (List.getD b.L e.I.toNat []) 0 default)) (Int.toNat (0:Int)) []) (0 + 1) default))])) (T.need (yes (rowOk (D.L (List.getD (List.getD b.L e.I.toNat []) 0 default)) = true ∧ (-40:Int) ≤ f.I ∧ f.I ≤ (80:Int) ∧ (1:Int) ≤ (1:Int) ∧ (1:Int) ≤ (↑(List.length (D.L (List.getD (List.getD b.L e.I.toNat []) 0 default))):Int))) (T.ite (allFrom (fun j=>!decide (f.I ≤ ix (List.getD (D.L (List.getD (List.getD b.L e.I.toNat []) 0 default)) j []) 0)) (Int.toNat (1:Int)) (List.length (D.L (List.getD (List.getD b.L e.I.toNat []) 0 default)) - Int.toNat (1:Int))) (T.need (decide ((0:Int) ≤ IntKind.i64.wrap ((↑(List.length (D.L (List.getD (List.getD b.L e.I.toNat []) 0 default))):Int) - (1:Int)) ∧ IntKind.i64.wrap ((↑(List.length (D.L (List.getD (List.getD b.L e.I.toNat []) 0 default))):Int) - (1:Int)) < (↑(List.length (D.L (List.getD (List.getD b.L e.I.toNat []) 0 default))):Int))) (T.leaf [D.i (D.I (List.getD (List.getD (D.L (List.getD (List.getD b.L e.I.toNat []) 0 default)) (Int.toNat (IntKind.i64.wrap ((↑(List.length (D.L (List.getD (List.getD b.L e.I.toNat []) 0 default))):Int) - (1:Int)))) []) (0 + 1) default))])) (T.leaf [D.i (freshFrom (D.L (List.getD (List.getD b.L e.I.toNat []) 0 default)) f.I (Int.toNat (1:Int)) (List.length (D.L (List.getD (List.getD b.L e.I.toNat []) 0 default)) - Int.toNat (1:Int)))])))))) (T.need (decide ((0:Int) ≤ (0:Int) ∧ (0:Int) < (↑(List.length (D.L (List.getD (List.getD a.L e.I.toNat []) 0 default))):Int))) (T.ite (decide (f.I ≤ D.I (List.getD (List.getD (D.L (List.getD (List.getD a.L e.I.toNat []) 0 default)) (Int.toNat (0:Int)) []) 0 default))) (T.need (decide ((0:Int) ≤ (0:Int) ∧ (0:Int) < (↑(List.length (D.L (List.getD (List.getD a.L e.I.toNat []) 0 default))):Int))) (T.leaf [D.i (D.I (List.getD (List.getD (D.L (List.getD (List.getD a.L e.I.toNat []) 0 default)) (Int.toNat (0:Int)) []) (0 + 1) default))])) (T.need (yes (rowOk (D.L (List.getD (List.getD a.L e.I.toNat []) 0 default)) = true ∧ (-40:Int) ≤ f.I ∧ f.I ≤ (80:Int) ∧ (1:Int) ≤ (1:Int) ∧ (1:Int) ≤ (↑(List.length (D.L (List.getD (List.getD a.L e.I.toNat []) 0 default))):Int))) (T.ite (allFrom (fun j=>!decide (f.I ≤ ix (List.getD (D.L (List.getD (List.getD a.L e.I.toNat []) 0 default)) j []) 0)) (Int.toNat (1:Int)) (List.length (D.L (List.getD (List.getD a.L e.I.toNat []) 0 default)) - Int.toNat (1:Int))) (T.need (decide ((0:Int) ≤ IntKind.i64.wrap ((↑(List.length (D.L (List.getD (List.getD a.L e.I.toNat []) 0 default))):Int) - (1:Int)) ∧ IntKind.i64.wrap ((↑(List.length (D.L (List.getD (List.getD a.L e.I.toNat []) 0 default))):Int) - (1:Int)) < (↑(List.length (D.L (List.getD (List.getD a.L e.I.toNat []) 0 default))):Int))) (T.leaf [D.i (D.I (List.getD (List.getD (D.L (List.getD (List.getD a.L e.I.toNat []) 0 default)) (Int.toNat (IntKind.i64.wrap ((↑(List.length (D.L (List.getD (List.getD a.L e.I.toNat []) 0 default))):Int) - (1:Int)))) []) (0 + 1) default))])) (T.leaf [D.i (freshFrom (D.L (List.getD (List.getD a.L e.I.toNat []) 0 default)) f.I (Int.toNat (1:Int)) (List.length (D.L (List.getD (List.getD a.L e.I.toNat []) 0 default)) - Int.toNat (1:Int)))])))))):=by kernel_rfl
theorem t79_7 (a b c:D):roundT C tab79 79 (loopOf C.P 79 7) l79_7 [a,b,c] =
 T.ite (decide (c.I < (b.L.length:Int))) (T.need (decide ((0:Int) ≤ IntKind.i64.wrap (c.I - (1:Int)) ∧ IntKind.i64.wrap (c.I - (1:Int)) < (b.L.length:Int))) (T.need (decide ((0:Int) ≤ c.I ∧ c.I < (b.L.length:Int))) (T.ite (decide (a.I ≤ D.I (List.getD (List.getD b.L c.I.toNat []) 0 default))) (T.need (!IntKind.i64.wrap (D.I (List.getD (List.getD b.L c.I.toNat []) 0 default) - D.I (List.getD (List.getD b.L (Int.toNat (IntKind.i64.wrap (c.I - (1:Int)))) []) 0 default)) == (0:Int)) (T.leaf (Rd.out Ex.ret [D.i (IntKind.i64.wrap (D.I (List.getD (List.getD b.L (Int.toNat (IntKind.i64.wrap (c.I - (1:Int)))) []) (0 + 1) default) + IntKind.i64.wrap (Int.tdiv (IntKind.i64.wrap (IntKind.i64.wrap (D.I (List.getD (List.getD b.L c.I.toNat []) (0 + 1) default) - D.I (List.getD (List.getD b.L (Int.toNat (IntKind.i64.wrap (c.I - (1:Int)))) []) (0 + 1) default)) * IntKind.i64.wrap (a.I - D.I (List.getD (List.getD b.L (Int.toNat (IntKind.i64.wrap (c.I - (1:Int)))) []) 0 default)))) (IntKind.i64.wrap (D.I (List.getD (List.getD b.L c.I.toNat []) 0 default) - D.I (List.getD (List.getD b.L (Int.toNat (IntKind.i64.wrap (c.I - (1:Int)))) []) 0 default))))))]))) (T.leaf (Rd.again [D.i a.I,D.l b.L,D.i (IntKind.i64.wrap (c.I + (1:Int)))]))))) (T.leaf (Rd.out (Ex.exit 0) [D.l b.L])):=by kernel_rfl
theorem t48 (a b c d e f g h:D):fnT C tab48 48 s48 [a,b,c,d,e,f,g,h] =
 T.need (yes (surfOk a.L b.L e.I g.B ∧ (-40:Int) ≤ f.I ∧ f.I ≤ (80:Int))) (T.need true (T.leaf [D.i (IntKind.i64.wrap (freshV (rowFor a.L b.L e.I g.B) f.I - IntKind.i64.wrap (Int.tdiv (IntKind.i64.wrap (IntKind.i64.wrap (freshV (rowFor a.L b.L e.I g.B) f.I * d.I) * h.I)) (1000000000:Int))))])):=by kernel_rfl
theorem t49 (a b:D):fnT C tab49 49 s49 [a,b] =
 T.ite ((a.L.length:Int) != b.I) (T.leaf [D.b false]) (T.need (yes (a.L.length < big ∧ b.I = (a.L.length:Int) ∧ (0:Int) ≤ (0:Int) ∧ (0:Int) ≤ b.I)) (T.ite (allFrom (fun j=>rowOk (rowAt a.L j)) (Int.toNat (0:Int)) (a.L.length - Int.toNat (0:Int))) (T.leaf [D.b true]) (T.leaf [D.b false]))):=by kernel_rfl
theorem t49_4 (a b c:D):roundT C tab49 49 (loopOf C.P 49 4) l49_4 [a,b,c] =
 T.ite (decide (c.I < b.I)) (T.need (decide ((0:Int) ≤ c.I ∧ c.I < (a.L.length:Int))) (T.ite (decide ((↑(List.length (D.L (List.getD (List.getD a.L c.I.toNat []) 0 default))):Int) < (1:Int))) (T.leaf (Rd.out Ex.ret [D.b false])) (T.need (decide ((0:Int) ≤ c.I ∧ c.I < (a.L.length:Int))) (T.ite (decide ((↑(List.length (D.L (List.getD (List.getD a.L c.I.toNat []) 0 default))):Int) > (10:Int))) (T.leaf (Rd.out Ex.ret [D.b false])) (T.need (yes (a.L.length < big ∧ (0:Int) ≤ c.I ∧ c.I < (a.L.length:Int) ∧ List.length (rowAt a.L c.I.toNat) ≤ 10 ∧ (0:Int) ≤ (0:Int) ∧ (0:Int) ≤ (↑(List.length (rowAt a.L c.I.toNat)):Int))) (T.ite (allFrom (knotAt (rowAt a.L c.I.toNat)) (Int.toNat (0:Int)) (List.length (rowAt a.L c.I.toNat) - Int.toNat (0:Int))) (T.leaf (Rd.again [D.l a.L,D.i b.I,D.i (IntKind.i64.wrap (c.I + (1:Int)))])) (T.leaf (Rd.out Ex.ret [D.b false])))))))) (T.leaf (Rd.out (Ex.exit 0) [])):=by kernel_rfl
theorem t49_9 (a b c d:D):roundT C tab49 49 (loopOf C.P 49 9) l49_9 [a,b,c,d] =
 T.need (decide ((0:Int) ≤ c.I ∧ c.I < (a.L.length:Int))) (T.ite (decide (d.I < (↑(List.length (D.L (List.getD (List.getD a.L c.I.toNat []) 0 default))):Int))) (T.need (decide ((0:Int) ≤ c.I ∧ c.I < (a.L.length:Int))) (T.need (decide ((0:Int) ≤ d.I ∧ d.I < (↑(List.length (D.L (List.getD (List.getD a.L c.I.toNat []) 0 default))):Int))) (T.ite (!within (D.I (List.getD (List.getD (D.L (List.getD (List.getD a.L c.I.toNat []) 0 default)) d.I.toNat []) 0 default)) (-40:Int) (80:Int)) (T.leaf (Rd.out Ex.ret [D.b false])) (T.ite (!within (D.I (List.getD (List.getD (D.L (List.getD (List.getD a.L c.I.toNat []) 0 default)) d.I.toNat []) (0 + 1) default)) (0:Int) (1000:Int)) (T.leaf (Rd.out Ex.ret [D.b false])) (T.ite (decide (d.I > (0:Int))) (T.need (decide ((0:Int) ≤ c.I ∧ c.I < (a.L.length:Int))) (T.need (decide ((0:Int) ≤ IntKind.i64.wrap (d.I - (1:Int)) ∧ IntKind.i64.wrap (d.I - (1:Int)) < (↑(List.length (D.L (List.getD (List.getD a.L c.I.toNat []) 0 default))):Int))) (T.ite (decide (D.I (List.getD (List.getD (D.L (List.getD (List.getD a.L c.I.toNat []) 0 default)) d.I.toNat []) 0 default) ≤ D.I (List.getD (List.getD (D.L (List.getD (List.getD a.L c.I.toNat []) 0 default)) (Int.toNat (IntKind.i64.wrap (d.I - (1:Int)))) []) 0 default))) (T.leaf (Rd.out Ex.ret [D.b false])) (T.leaf (Rd.again [D.l a.L,D.i b.I,D.i c.I,D.i (IntKind.i64.wrap (d.I + (1:Int)))]))))) (T.leaf (Rd.again [D.l a.L,D.i b.I,D.i c.I,D.i (IntKind.i64.wrap (d.I + (1:Int)))]))))))) (T.leaf (Rd.out (Ex.exit 2) [D.l a.L,D.i b.I,D.i c.I]))):=by kernel_rfl
theorem t18 (a b c d:D):fnT C tab18 18 s18 [a,b,c,d] =
 T.ite (decide ((a.L.length:Int) < (1:Int))) (T.leaf [D.b false]) (T.ite (decide ((a.L.length:Int) > (8:Int))) (T.leaf [D.b false]) (T.need (yes (a.L.length < big)) (T.ite (!(decide ((a.L.length:Int) = (a.L.length:Int)) && rowsOk a.L)) (T.leaf [D.b false]) (T.need (yes (b.L.length < big)) (T.ite (!(decide ((b.L.length:Int) = (a.L.length:Int)) && rowsOk b.L)) (T.leaf [D.b false]) (T.ite ((c.L.length:Int) != (a.L.length:Int)) (T.leaf [D.b false]) (T.ite (!within d.I (0:Int) (1000:Int)) (T.leaf [D.b false]) (T.need (yes (c.L.length < big ∧ (a.L.length:Int) = (c.L.length:Int) ∧ (0:Int) ≤ (0:Int) ∧ (0:Int) ≤ (a.L.length:Int))) (T.ite (allFrom (fun j=>within (ix (List.getD c.L j []) 0) (0:Int) (1000:Int)) (Int.toNat (0:Int)) (c.L.length - Int.toNat (0:Int))) (T.leaf [D.b true]) (T.leaf [D.b false])))))))))):=by kernel_rfl
theorem t18_5 (a b c d e f:D):roundT C tab18 18 (loopOf C.P 18 5) l18_5 [a,b,c,d,e,f] =
 T.ite (decide (b.I < a.I)) (T.need (decide ((0:Int) ≤ b.I ∧ b.I < (e.L.length:Int))) (T.ite (!within (D.I (List.getD (List.getD e.L b.I.toNat []) 0 default)) (0:Int) (1000:Int)) (T.leaf (Rd.out Ex.ret [D.b false])) (T.leaf (Rd.again [D.i a.I,D.i (IntKind.i64.wrap (b.I + (1:Int))),D.l c.L,D.l d.L,D.l e.L,D.i f.I])))) (T.leaf (Rd.out (Ex.exit 0) [])):=by kernel_rfl
theorem t51 (a b:D):fnT C tab51 51 s51 [a,b] =
 T.need (decide ((0:Int) ≤ (0:Int) ∧ (0:Int) < (a.L.length:Int))) (T.ite (decide (b.I ≤ D.I (List.getD (List.getD a.L (Int.toNat (0:Int)) []) 0 default))) (T.need (decide ((0:Int) ≤ (0:Int) ∧ (0:Int) < (a.L.length:Int))) (T.leaf [D.i (D.I (List.getD (List.getD a.L (Int.toNat (0:Int)) []) (0 + 1) default))])) (T.need (yes (rowOk a.L = true ∧ (-40:Int) ≤ b.I ∧ b.I ≤ (80:Int) ∧ (1:Int) ≤ (1:Int) ∧ (1:Int) ≤ (a.L.length:Int))) (T.ite (allFrom (fun j=>!decide (b.I ≤ ix (List.getD a.L j []) 0)) (Int.toNat (1:Int)) (a.L.length - Int.toNat (1:Int))) (T.need (decide ((0:Int) ≤ IntKind.i64.wrap ((a.L.length:Int) - (1:Int)) ∧ IntKind.i64.wrap ((a.L.length:Int) - (1:Int)) < (a.L.length:Int))) (T.leaf [D.i (D.I (List.getD (List.getD a.L (Int.toNat (IntKind.i64.wrap ((a.L.length:Int) - (1:Int)))) []) (0 + 1) default))])) (T.leaf [D.i (freshFrom a.L b.I (Int.toNat (1:Int)) (a.L.length - Int.toNat (1:Int)))])))):=by kernel_rfl
theorem t51_4 (a b c:D):roundT C tab51 51 (loopOf C.P 51 4) l51_4 [a,b,c] =
 T.ite (decide (c.I < (a.L.length:Int))) (T.need (decide ((0:Int) ≤ IntKind.i64.wrap (c.I - (1:Int)) ∧ IntKind.i64.wrap (c.I - (1:Int)) < (a.L.length:Int))) (T.need (decide ((0:Int) ≤ c.I ∧ c.I < (a.L.length:Int))) (T.ite (decide (b.I ≤ D.I (List.getD (List.getD a.L c.I.toNat []) 0 default))) (T.need (!IntKind.i64.wrap (D.I (List.getD (List.getD a.L c.I.toNat []) 0 default) - D.I (List.getD (List.getD a.L (Int.toNat (IntKind.i64.wrap (c.I - (1:Int)))) []) 0 default)) == (0:Int)) (T.leaf (Rd.out Ex.ret [D.i (IntKind.i64.wrap (D.I (List.getD (List.getD a.L (Int.toNat (IntKind.i64.wrap (c.I - (1:Int)))) []) (0 + 1) default) + IntKind.i64.wrap (Int.tdiv (IntKind.i64.wrap (IntKind.i64.wrap (D.I (List.getD (List.getD a.L c.I.toNat []) (0 + 1) default) - D.I (List.getD (List.getD a.L (Int.toNat (IntKind.i64.wrap (c.I - (1:Int)))) []) (0 + 1) default)) * IntKind.i64.wrap (b.I - D.I (List.getD (List.getD a.L (Int.toNat (IntKind.i64.wrap (c.I - (1:Int)))) []) 0 default)))) (IntKind.i64.wrap (D.I (List.getD (List.getD a.L c.I.toNat []) 0 default) - D.I (List.getD (List.getD a.L (Int.toNat (IntKind.i64.wrap (c.I - (1:Int)))) []) 0 default))))))]))) (T.leaf (Rd.again [D.l a.L,D.i b.I,D.i (IntKind.i64.wrap (c.I + (1:Int)))]))))) (T.leaf (Rd.out (Ex.exit 0) [D.l a.L])):=by kernel_rfl
theorem t19 (a b c d e f g h:D):fnT C tab19 19 s19 [a,b,c,d,e,f,g,h] =
 T.ite g.B (T.need (decide ((0:Int) ≤ e.I ∧ e.I < (b.L.length:Int))) (T.need (yes (rowOk (D.L (List.getD (List.getD b.L e.I.toNat []) 0 default)) = true ∧ (-40:Int) ≤ f.I ∧ f.I ≤ (80:Int))) (T.need true (T.leaf [D.i (IntKind.i64.wrap (freshV (D.L (List.getD (List.getD b.L e.I.toNat []) 0 default)) f.I - IntKind.i64.wrap (Int.tdiv (IntKind.i64.wrap (IntKind.i64.wrap (freshV (D.L (List.getD (List.getD b.L e.I.toNat []) 0 default)) f.I * d.I) * h.I)) (1000000000:Int))))])))) (T.need (decide ((0:Int) ≤ e.I ∧ e.I < (a.L.length:Int))) (T.need (yes (rowOk (D.L (List.getD (List.getD a.L e.I.toNat []) 0 default)) = true ∧ (-40:Int) ≤ f.I ∧ f.I ≤ (80:Int))) (T.need true (T.leaf [D.i (IntKind.i64.wrap (freshV (D.L (List.getD (List.getD a.L e.I.toNat []) 0 default)) f.I - IntKind.i64.wrap (Int.tdiv (IntKind.i64.wrap (IntKind.i64.wrap (freshV (D.L (List.getD (List.getD a.L e.I.toNat []) 0 default)) f.I * d.I) * h.I)) (1000000000:Int))))])))):=by kernel_rfl
theorem t15 (a b c d:D):fnT C tab15 15 s15 [a,b,c,d] =
 T.ite (decide ((a.L.length:Int) > (10:Int))) (T.leaf [D.b false]) (T.ite (decide ((b.L.length:Int) > (10:Int))) (T.leaf [D.b false]) (T.ite (decide ((c.L.length:Int) > (10:Int))) (T.leaf [D.b false]) (T.need (yes (a.L.length ≤ 10 ∧ (0:Int) ≤ (0:Int) ∧ (0:Int) ≤ (a.L.length:Int))) (T.ite (allFrom (fun j=>decide (List.length (rowAt a.L j) ≤ 12)) (Int.toNat (0:Int)) (a.L.length - Int.toNat (0:Int))) (T.need (yes (b.L.length ≤ 10 ∧ (0:Int) ≤ (0:Int) ∧ (0:Int) ≤ (b.L.length:Int))) (T.ite (allFrom (fun j=>decide (List.length (rowAt b.L j) ≤ 12)) (Int.toNat (0:Int)) (b.L.length - Int.toNat (0:Int))) (T.leaf [D.b true]) (T.leaf [D.b false]))) (T.leaf [D.b false]))))):=by kernel_rfl
theorem t15_4 (a b c d e:D):roundT C tab15 15 (loopOf C.P 15 4) l15_4 [a,b,c,d,e] =
 T.ite (decide (a.I < (b.L.length:Int))) (T.need (decide ((0:Int) ≤ a.I ∧ a.I < (b.L.length:Int))) (T.ite (decide ((↑(List.length (D.L (List.getD (List.getD b.L a.I.toNat []) 0 default))):Int) > (12:Int))) (T.leaf (Rd.out Ex.ret [D.b false])) (T.leaf (Rd.again [D.i (IntKind.i64.wrap (a.I + (1:Int))),D.l b.L,D.l c.L,D.l d.L,D.i e.I])))) (T.leaf (Rd.out (Ex.exit 0) [D.l b.L,D.l c.L,D.l d.L,D.i e.I])):=by kernel_rfl
theorem t15_9 (a b c d e:D):roundT C tab15 15 (loopOf C.P 15 9) l15_9 [a,b,c,d,e] =
 T.ite (decide (a.I < (c.L.length:Int))) (T.need (decide ((0:Int) ≤ a.I ∧ a.I < (c.L.length:Int))) (T.ite (decide ((↑(List.length (D.L (List.getD (List.getD c.L a.I.toNat []) 0 default))):Int) > (12:Int))) (T.leaf (Rd.out Ex.ret [D.b false])) (T.leaf (Rd.again [D.i (IntKind.i64.wrap (a.I + (1:Int))),D.l b.L,D.l c.L,D.l d.L,D.i e.I])))) (T.leaf (Rd.out (Ex.exit 2) [])):=by kernel_rfl
theorem hC:∀ t Y,C.ty t = some Y → tyOf C.P t = some Y:=by
 intro t Y h
 dsimp only [C] at h ⊢
 exact h
theorem fuelC:C.fuel = 18446744073709551616:=by kernel_rfl
theorem ok47 (n:Nat):FnOK C (n + 1) 47 (mkF s47 G47):=by
 refine fn_of hC (sp:=sp47) (lp:=lp47) trivial (by kernel_rfl) [] (by kernel_rfl) rfl (fun k hk=>by cases hk) fun ds r h=>?_
 unfold G47 at h
 split at h
 ·rename_i a b c
  rw [← h]
  refine (congrArg T.run (t47 a b c)).trans ?_
  simp only [run_ite,run_leaf,within]
  split <;> rename_i hc
  ·have:b.I ≤ a.I:=of_decide_eq_true hc
   simp [this]
  ·have:¬ b.I ≤ a.I:=fun h=>hc (decide_eq_true h)
   simp [this]
 ·cases h
theorem ok50 (n:Nat):FnOK C (n + 1) 50 (mkF s50 G50):=by
 refine fn_of hC (sp:=sp50) (lp:=lp50) trivial (by kernel_rfl) [] (by kernel_rfl) rfl (fun k hk=>by cases hk) fun ds r h=>?_
 unfold G50 at h
 split at h
 ·rename_i a b c
  rw [← h]
  refine (congrArg T.run (t50 a b c)).trans ?_
  simp only [run_ite,run_leaf,within]
  split <;> rename_i hc
  ·have:b.I ≤ a.I:=of_decide_eq_true hc
   simp [this]
  ·have:¬ b.I ≤ a.I:=fun h=>hc (decide_eq_true h)
   simp [this]
 ·cases h
theorem ok75_2 (n:Nat):LoopSim C (n + 1) 75 (loopOf C.P 75 2) (mkL l75_2 G75_2):=by
 refine loop_of hC (sp:=sp75) (lp:=lp75) ⟨ok47 n,trivial⟩ [] (by kernel_rfl) rfl (fun k hk=>by cases hk) (by kernel_rfl) (fun ds=>((ds.getD 2 default).I - (ds.getD 3 default).I).toNat) fun ds r h=>?_
 unfold G75_2 at h
 split at h
 ·rename_i l0 l n i
  obtain ⟨hp,h⟩:=need_some h
  rw [yes_iff] at hp
  obtain ⟨h1,h2,h3,h4,h5⟩:=hp
  have hb:big = 4611686018427387904:=rfl
  refine ⟨by rw [fuelC]; simp; omega,?_⟩
  rw [show roundT C (mkTab sp75 lp75) 75 (loopOf C.P 75 2) l75_2 [l0,l,n,i] = _ from t75_2 l0 l n i]
  obtain ⟨k,hk⟩:∃ k:Nat,i.I = k:=⟨i.I.toNat,by omega⟩
  simp only [run_ite,run_need,run_leaf,hk,h1,h2,Int.toNat_natCast,ix_def,Nat.zero_add] at h h4 ⊢
  refine all_loop (p:=knotAt l.L) (i:=k) (len:=l.L.length) [D.l l.L,D.l l.L,D.i l.L.length,D.i (k + 1:Nat)] h ?_ ?_
  ·simp only [knotAt,wrap_succ (show k < 9223372036854775807 by omega),wrap_pred (show k < 9223372036854775807 by omega),toNat_pred]
   grind
  ·intro hlt hp hh
   refine ⟨Eq.trans (need_yes (p:=_) (t:=_) ?_) hh,?_⟩
   ·simp only [I_i,L_l]
    exact ⟨trivial,trivial,by omega,by omega,h5⟩
   ·show ((l.L.length:Int) - ((k + 1:Nat):Int)).toNat < (n.I - i.I).toNat
    omega
 ·cases h
theorem ok75 (n:Nat):FnOK C (n + 2) 75 (mkF s75 G75):=by
 refine fn_of hC (sp:=sp75) (lp:=lp75) ⟨ok47 n,trivial⟩ (by kernel_rfl) [2] (by kernel_rfl) (by kernel_rfl) (fun k hk L hL=>by simp at hk; subst hk; cases hL; exact ok75_2 n) fun ds r h=>?_
 unfold G75 at h
 split at h
 ·rename_i l
  obtain ⟨hp,h⟩:=need_some h
  rw [yes_iff] at hp
  rw [← h]
  refine (congrArg T.run (t75 l)).trans ?_
  simp [run_ite,run_need,run_leaf,yes_iff,hp,rowOk]
  split <;> rename_i hc <;> simp [hc]
 ·cases h
theorem ok74 (n:Nat):FnOK C (n + 3) 74 (mkF s74 G74):=by
 refine fn_of hC (sp:=sp74) (lp:=lp74) ⟨ok75 n,trivial⟩ (by kernel_rfl) [] (by kernel_rfl) rfl (fun k hk=>by cases hk) fun ds r h=>?_
 unfold G74 at h
 split at h
 ·rename_i l
  rw [← h]
  exact congrArg T.run (t74 l)
 ·cases h
theorem ok78 (n:Nat):FnOK C (n + 2) 78 (mkF s78 G78):=by
 refine fn_of hC (sp:=sp78) (lp:=lp78) ⟨ok47 n,trivial⟩ (by kernel_rfl) [] (by kernel_rfl) rfl (fun k hk=>by cases hk) fun ds r h=>?_
 unfold G78 at h
 split at h
 ·rename_i l
  rw [← h]
  exact congrArg T.run (t78 l)
 ·cases h
theorem ok98_2 (n:Nat):LoopSim C (n + 3) 98 (loopOf C.P 98 2) (mkL l98_2 G98_2):=by
 refine loop_of hC (sp:=sp98) (lp:=lp98) ⟨ok74 n,trivial⟩ [] (by kernel_rfl) rfl (fun k hk=>by cases hk) (by kernel_rfl) (fun ds=>((ds.getD 1 default).I - (ds.getD 2 default).I).toNat) fun ds r h=>?_
 unfold G98_2 at h
 split at h
 ·rename_i l n i
  obtain ⟨hp,h⟩:=need_some h
  rw [yes_iff] at hp
  obtain ⟨h1,h2,h3,h4⟩:=hp
  have hb:big = 4611686018427387904:=rfl
  have hsm:=h1.1
  refine ⟨by rw [fuelC]; simp; omega,?_⟩
  rw [show roundT C (mkTab sp98 lp98) 98 (loopOf C.P 98 2) l98_2 [l,n,i] = _ from t98_2 l n i]
  obtain ⟨k,hk⟩:∃ k:Nat,i.I = k:=⟨i.I.toNat,by omega⟩
  simp only [run_ite,run_need,run_leaf,hk,h2,Int.toNat_natCast] at h h4 ⊢
  refine first_loop (p:=fun j=>!rowOk (rowAt l.L j)) (i:=k) (len:=l.L.length) [D.l l.L,D.i l.L.length,D.i (k + 1:Nat)] h ?_ ?_
  ·simp only [wrap_succ (show k < 9223372036854775807 by omega)]
   have:=h1.2 k
   simp only [rowAt,lx_def,yes_iff] at this ⊢
   grind
  ·intro hlt hp hh
   refine ⟨Eq.trans (need_yes (p:=_) (t:=_) ?_) hh,?_⟩
   ·simp only [I_i,L_l]
    exact ⟨h1,trivial,by omega,by omega⟩
   ·show ((l.L.length:Int) - ((k + 1:Nat):Int)).toNat < (n.I - i.I).toNat
    omega
 ·cases h
theorem ok98 (n:Nat):FnOK C (n + 4) 98 (mkF s98 G98):=by
 refine fn_of hC (sp:=sp98) (lp:=lp98) ⟨ok74 n,trivial⟩ (by kernel_rfl) [2] (by kernel_rfl) (by kernel_rfl) (fun k hk L hL=>by simp at hk; subst hk; cases hL; exact ok98_2 n) fun ds r h=>?_
 unfold G98 at h
 split at h
 ·rename_i l
  obtain ⟨hp,h⟩:=need_some h
  rw [yes_iff] at hp
  rw [← h]
  refine (congrArg T.run (t98 l)).trans ?_
  refine (need_yes ⟨hp,by omega,by omega,by omega⟩).trans ?_
  simp only [run_ite,run_leaf,Int.toNat_zero,Nat.sub_zero]
  split
  ·rfl
  ·rename_i hc
   have:¬ firstFrom (fun j=>!rowOk (rowAt l.L j)) 0 l.L.length ≥ 0:=fun hh=>hc (decide_eq_true hh)
   rw [firstFrom_neg (by omega)]
 ·cases h
theorem ok99_2 (n:Nat):LoopSim C (n + 2) 99 (loopOf C.P 99 2) (mkL l99_2 G99_2):=by
 refine loop_of hC (sp:=sp99) (lp:=lp99) ⟨ok78 n,trivial⟩ [] (by kernel_rfl) rfl (fun k hk=>by cases hk) (by kernel_rfl) (fun ds=>((ds.getD 1 default).I - (ds.getD 2 default).I).toNat) fun ds r h=>?_
 unfold G99_2 at h
 split at h
 ·rename_i l n i
  obtain ⟨hp,h⟩:=need_some h
  rw [yes_iff] at hp
  obtain ⟨h1,h2,h3,h4⟩:=hp
  have hb:big = 4611686018427387904:=rfl
  refine ⟨by rw [fuelC]; simp; omega,?_⟩
  rw [show roundT C (mkTab sp99 lp99) 99 (loopOf C.P 99 2) l99_2 [l,n,i] = _ from t99_2 l n i]
  obtain ⟨k,hk⟩:∃ k:Nat,i.I = k:=⟨i.I.toNat,by omega⟩
  simp only [run_ite,run_need,run_leaf,hk,h2,Int.toNat_natCast] at h h4 ⊢
  refine first_loop (p:=fun j=>!within (ix (l.L.getD j []) 0) 0 1000) (i:=k) (len:=l.L.length) [D.l l.L,D.i l.L.length,D.i (k + 1:Nat)] h ?_ ?_
  ·simp only [wrap_succ (show k < 9223372036854775807 by omega),ix_def]
   grind
  ·intro hlt hp hh
   refine ⟨Eq.trans (need_yes (p:=_) (t:=_) ?_) hh,?_⟩
   ·simp only [I_i,L_l]
    exact ⟨h1,trivial,by omega,by omega⟩
   ·show ((l.L.length:Int) - ((k + 1:Nat):Int)).toNat < (n.I - i.I).toNat
    omega
 ·cases h
theorem ok99 (n:Nat):FnOK C (n + 3) 99 (mkF s99 G99):=by
 refine fn_of hC (sp:=sp99) (lp:=lp99) ⟨ok78 n,trivial⟩ (by kernel_rfl) [2] (by kernel_rfl) (by kernel_rfl) (fun k hk L hL=>by simp at hk; subst hk; cases hL; exact ok99_2 n) fun ds r h=>?_
 unfold G99 at h
 split at h
 ·rename_i l
  obtain ⟨hp,h⟩:=need_some h
  rw [yes_iff] at hp
  rw [← h]
  refine (congrArg T.run (t99 l)).trans ?_
  refine (need_yes ⟨hp,by omega,by omega,by omega⟩).trans ?_
  simp only [run_ite,run_leaf,Int.toNat_zero,Nat.sub_zero]
  split
  ·rfl
  ·rename_i hc
   have:¬ firstFrom (fun j=>!within (ix (l.L.getD j []) 0) 0 1000) 0 l.L.length ≥ 0:=fun hh=>hc (decide_eq_true hh)
   rw [firstFrom_neg (by omega)]
 ·cases h
theorem ok76 (n:Nat):FnOK C (n + 5) 76 (mkF s76 G76):=by
 refine fn_of hC (sp:=sp76) (lp:=lp76) ⟨ok98 n,(ok74 (n + 1)),trivial⟩ (by kernel_rfl) [] (by kernel_rfl) rfl (fun k hk=>by cases hk) fun ds r h=>?_
 unfold G76 at h
 split at h
 ·rename_i l
  rw [← h]
  refine (congrArg T.run (t76 l)).trans ?_
  rw [firstFrom_all]
  simp only [Bool.not_not]
  rfl
 ·cases h
theorem ok77 (n:Nat):FnOK C (n + 4) 77 (mkF s77 G77):=by
 refine fn_of hC (sp:=sp77) (lp:=lp77) ⟨ok99 n,ok78 (n + 1),trivial⟩ (by kernel_rfl) [] (by kernel_rfl) rfl (fun k hk=>by cases hk) fun ds r h=>?_
 unfold G77 at h
 split at h
 ·rename_i l
  rw [← h]
  refine (congrArg T.run (t77 l)).trans ?_
  rw [firstFrom_all]
  simp only [Bool.not_not]
  rfl
 ·cases h
theorem ok46 (n:Nat):FnOK C (n + 6) 46 (mkF s46 G46):=by
 refine fn_of hC (sp:=sp46) (lp:=lp46) ⟨ok47 (n + 4),ok76 n,ok77 (n + 1),trivial⟩ (by kernel_rfl) [] (by kernel_rfl) rfl (fun k hk=>by cases hk) fun ds r h=>?_
 unfold G46 at h
 split at h
 ·rename_i a b c d
  obtain ⟨hp,h⟩:=need_some h
  rw [yes_iff] at hp
  rw [← h]
  refine (congrArg T.run (t46 a b c d)).trans ?_
  simp only [run_ite,run_need,run_leaf,compoundOk,yes_true hp.1,yes_true hp.2.1,yes_true hp.2.2,if_true]
  have e1:((b.L.length:Int) = a.L.length) ↔ b.L.length = a.L.length:=Int.ofNat_inj
  have e2:((c.L.length:Int) = a.L.length) ↔ c.L.length = a.L.length:=Int.ofNat_inj
  grind
 ·cases h
theorem row_len {l:List (List D)} (h:rowOk l = true):1 ≤ l.length ∧ l.length ≤ 10:=by
 simp only [rowOk,Bool.and_eq_true,Lite.within_iff] at h
 omega
theorem row_knot {l:List (List D)} (h:rowOk l = true) {j:Nat} (hj:j < l.length):(-40 ≤ ix (l.getD j []) 0 ∧ ix (l.getD j []) 0 ≤ 80) ∧ (0 ≤ ix (l.getD j []) 1 ∧ ix (l.getD j []) 1 ≤ 1000) ∧ (j = 0 ∨ ix (l.getD (j - 1) []) 0 < ix (l.getD j []) 0):=by
 simp only [rowOk,Bool.and_eq_true,allFrom_iff] at h
 have:=h.1 j (Nat.zero_le _) (by omega)
 simp only [knotAt,Bool.and_eq_true,Lite.within_iff,Bool.or_eq_true,decide_eq_true_eq] at this
 exact ⟨this.1.1,this.1.2,this.2⟩
theorem interp_between {a b:List D} {d:Int} (ha:0 ≤ ix a 1 ∧ ix a 1 ≤ 1000) (hb:0 ≤ ix b 1 ∧ ix b 1 ≤ 1000) (h1:ix a 0 ≤ d) (h2:d ≤ ix b 0) (h3:ix a 0 < ix b 0):0 ≤ interp a b d ∧ interp a b d ≤ 1000:=by
 unfold interp
 have:=@Lite.tdiv_between (ix b 1 - ix a 1) (d - ix a 0) (ix b 0 - ix a 0) (by omega) (by omega) (by omega)
 generalize ((ix b 1 - ix a 1) * (d - ix a 0)).tdiv (ix b 0 - ix a 0) = x at *
 omega
theorem freshFrom_range {l:List (List D)} {d:Int} (h:rowOk l = true):∀ (k i:Nat),1 ≤ i → i + k = l.length → ix (l.getD (i - 1) []) 0 ≤ d → 0 ≤ freshFrom l d i k ∧ freshFrom l d i k ≤ 1000
 | 0, i,h1,h2,h3=>by
   simp only [freshFrom]
   have:=(row_knot h (j:=l.length - 1) (by omega)).2.1
   omega
 | k + 1,i,h1,h2,h3=>by
   simp only [freshFrom]
   have ha:=row_knot h (j:=i - 1) (by omega)
   have hb:=row_knot h (j:=i) (by omega)
   split
   ·exact interp_between ha.2.1 hb.2.1 h3 ‹_› (hb.2.2.resolve_left (by omega))
   ·refine freshFrom_range h k (i + 1) (by omega) (by omega) ?_
    simp only [Nat.add_sub_cancel]
    omega
theorem freshV_range {l:List (List D)} {d:Int} (h:rowOk l = true):0 ≤ freshV l d ∧ freshV l d ≤ 1000:=by
 unfold freshV
 have hl:=row_len h
 split
 ·have:=(row_knot h (j:=0) (by omega)).2.1
  omega
 ·refine freshFrom_range h _ _ (by omega) (by omega) ?_
  simp only [Nat.sub_self]
  omega
theorem interp_wrap {a b:List D} {d:Int} (ha:0 ≤ ix a 1 ∧ ix a 1 ≤ 1000) (hb:0 ≤ ix b 1 ∧ ix b 1 ≤ 1000) (ha0:-40 ≤ ix a 0 ∧ ix a 0 ≤ 80) (hb0:-40 ≤ ix b 0 ∧ ix b 0 ≤ 80) (hd:-40 ≤ d ∧ d ≤ 80) :
    IntKind.i64.wrap (ix a 1 + IntKind.i64.wrap (Int.tdiv (IntKind.i64.wrap (IntKind.i64.wrap (ix b 1 - ix a 1) * IntKind.i64.wrap (d - ix a 0))) (IntKind.i64.wrap (ix b 0 - ix a 0)))) = interp a b d:=by
 unfold interp
 rw [wrap_id (x:=ix b 1 - ix a 1) (by omega) (by omega),wrap_id (x:=d - ix a 0) (by omega) (by omega),wrap_id (x:=ix b 0 - ix a 0) (by omega) (by omega)]
 have h1:((ix b 1 - ix a 1) * (d - ix a 0)).natAbs ≤ 1000 * 120:=mul_abs (by omega) (by omega)
 rw [wrap_abs h1 (by decide)]
 have h2:=@Lite.tdiv_abs _ (ix b 0 - ix a 0) _ h1
 rw [wrap_abs h2 (by decide)]
 generalize ((ix b 1 - ix a 1) * (d - ix a 0)).tdiv (ix b 0 - ix a 0) = x at *
 exact wrap_id (by omega) (by omega)
theorem ok79_7 (n:Nat):LoopSim C (n + 1) 79 (loopOf C.P 79 7) (mkL l79_7 G79_7):=by
 refine loop_of hC (sp:=sp79) (lp:=lp79) trivial [] (by kernel_rfl) rfl (fun k hk=>by cases hk) (by kernel_rfl) (fun ds=>(((ds.getD 1 default).L.length:Int) - (ds.getD 2 default).I).toNat) fun ds r h=>?_
 unfold G79_7 at h
 split at h
 ·rename_i a b c
  obtain ⟨hp,h⟩:=need_some h
  rw [yes_iff] at hp
  obtain ⟨h1,h2,h3,h4,h5⟩:=hp
  have hl:=row_len h1
  refine ⟨by rw [fuelC]; simp; omega,?_⟩
  rw [show roundT C (mkTab sp79 lp79) 79 (loopOf C.P 79 7) l79_7 [a,b,c] = _ from t79_7 a b c]
  obtain ⟨k,hk⟩:∃ k:Nat,c.I = k:=⟨c.I.toNat,by omega⟩
  simp only [run_ite,run_need,run_leaf,hk,Int.toNat_natCast] at h h4 ⊢
  refine find_loop (q:=fun j=>!decide (a.I ≤ ix (b.L.getD j []) 0)) (i:=k) (len:=b.L.length) (val:=fun i k=>(.ret,[.i (freshFrom b.L a.I i k)])) (w:=(.ret,[.i (interp (b.L.getD (k - 1) []) (b.L.getD k []) a.I)])) [D.i a.I,D.l b.L,D.i (k + 1:Nat)] h ?_ ?_ ?_
  ·intro k'
   simp only [freshFrom]
   by_cases hh:a.I ≤ ix (b.L.getD k []) 0
   ·simp only [hh,decide_true,Bool.not_true,Bool.false_eq_true,if_true,if_false]
   ·simp only [hh,decide_false,Bool.not_false,if_true,if_false]
  ·by_cases hlt:k < b.L.length
   ·have ka:=row_knot h1 (j:=k - 1) (by omega)
    have kb:=row_knot h1 (j:=k) hlt
    have kk:=kb.2.2.resolve_left (by omega)
    simp only [wrap_succ (show k < 9223372036854775807 by omega),wrap_pred (show k < 9223372036854775807 by omega),toNat_pred,ix_def,Nat.zero_add]
    rw [interp_wrap ka.2.1 kb.2.1 ka.1 kb.1 ⟨h2,h3⟩,wrap_id (x:=ix (b.L.getD k []) 0 - ix (b.L.getD (k - 1) []) 0) (by omega) (by omega)]
    have e1:((ix (b.L.getD k []) 0 - ix (b.L.getD (k - 1) []) 0 == 0) = false):=beq_eq_false_iff_ne.2 (by omega)
    grind
   ·grind
  ·intro hlt hp hh
   refine ⟨Eq.trans (need_yes (p:=_) (t:=_) ?_) hh,?_⟩
   ·simp only [I_i,L_l]
    exact ⟨h1,h2,h3,by omega,by omega⟩
   ·show ((b.L.length:Int) - ((k + 1:Nat):Int)).toNat < ((b.L.length:Int) - c.I).toNat
    omega
 ·cases h
theorem rowFor_true {a b:List (List D)} {e:Int}:rowFor a b e true = rowAt b e.toNat:=rfl
theorem rowFor_false {a b:List (List D)} {e:Int}:rowFor a b e false = rowAt a e.toNat:=rfl
theorem fresh_run {l:List (List D)} {d:Int} (h1:rowOk l = true) (h2:-40 ≤ d) (h3:d ≤ 80) :
    (T.need (decide ((0:Int) ≤ (0:Int) ∧ (0:Int) < (↑(List.length l):Int))) (T.ite (decide (d ≤ D.I (List.getD (List.getD l (Int.toNat (0:Int)) []) 0 default))) (T.need (decide ((0:Int) ≤ (0:Int) ∧ (0:Int) < (↑(List.length l):Int))) (T.leaf [D.i (D.I (List.getD (List.getD l (Int.toNat (0:Int)) []) (0 + 1) default))])) (T.need (yes (rowOk l = true ∧ (-40:Int) ≤ d ∧ d ≤ (80:Int) ∧ (1:Int) ≤ (1:Int) ∧ (1:Int) ≤ (↑(List.length l):Int))) (T.ite (allFrom (fun j=>!decide (d ≤ ix (List.getD l j []) 0)) (Int.toNat (1:Int)) (List.length l - Int.toNat (1:Int))) (T.need (decide ((0:Int) ≤ IntKind.i64.wrap ((↑(List.length l):Int) - (1:Int)) ∧ IntKind.i64.wrap ((↑(List.length l):Int) - (1:Int)) < (↑(List.length l):Int))) (T.leaf [D.i (D.I (List.getD (List.getD l (Int.toNat (IntKind.i64.wrap ((↑(List.length l):Int) - (1:Int)))) []) (0 + 1) default))])) (T.leaf [D.i (freshFrom l d (Int.toNat (1:Int)) (List.length l - Int.toNat (1:Int)))]))))).run = some [D.i (freshV l d)]:=by
 have hl:=row_len h1
 have hall:∀ k i,allFrom (fun j=>!decide (d ≤ ix (l.getD j []) 0)) i k = true → freshFrom l d i k = ix (l.getD (l.length - 1) []) 1:=by
  intro k
  induction k with
  | zero=>intro i _; rfl
  | succ k ih=>
    intro i h
    simp only [allFrom,Bool.and_eq_true] at h
    simp only [freshFrom]
    rw [if_neg (by simpa using h.1),ih _ h.2]
 have hn:∃ m:Nat,l.length = m + 1:=⟨l.length - 1,by omega⟩
 obtain ⟨m,hm⟩:=hn
 simp only [run_ite,run_need,run_leaf,ix_def,Nat.zero_add,wrap_pred (show l.length < 9223372036854775807 by omega),toNat_pred]
 unfold freshV
 have c1:decide ((0:Int) ≤ 0 ∧ (0:Int) < (l.length:Int)) = true:=decide_eq_true ⟨by omega,by omega⟩
 have c2:decide ((0:Int) ≤ (l.length:Int) - 1 ∧ (l.length:Int) - 1 < (l.length:Int)) = true:=decide_eq_true ⟨by omega,by omega⟩
 have c3:yes (rowOk l = true ∧ (-40:Int) ≤ d ∧ d ≤ (80:Int) ∧ (1:Int) ≤ (1:Int) ∧ (1:Int) ≤ (↑(List.length l):Int)) = true:=yes_true ⟨h1,h2,h3,by omega,by omega⟩
 rw [c1,c2,c3]
 simp only [if_true,Int.toNat_zero,show Int.toNat 1 = 1 from rfl]
 split
 ·rename_i hc
  rw [if_pos (of_decide_eq_true hc)]
 ·rename_i hc
  rw [if_neg (fun h=>hc (decide_eq_true h))]
  split
  ·rename_i hc
   rw [hall _ _ hc]
  ·rfl
theorem ok79 (n:Nat):FnOK C (n + 2) 79 (mkF s79 G79):=by
 refine fn_of hC (sp:=sp79) (lp:=lp79) trivial (by kernel_rfl) [7] (by kernel_rfl) (by kernel_rfl) (fun k hk L hL=>by simp at hk; subst hk; cases hL; exact ok79_7 n) fun ds r h=>?_
 unfold G79 at h
 split at h
 ·rename_i a b c d e f g
  obtain ⟨hp,h⟩:=need_some h
  rw [yes_iff] at hp
  obtain ⟨⟨h1,h2,h3,h4⟩,h5,h6⟩:=hp
  rw [← h]
  refine (congrArg T.run (t79 a b c d e f g)).trans ?_
  rw [run_need,if_pos (decide_eq_true ⟨h1,h2⟩),run_ite]
  cases hg:g.B with
  | true=>
    rw [hg,rowFor_true] at h4
    simp only [if_true,rowFor_true]
    rw [run_need,if_pos (decide_eq_true ⟨h1,h3⟩)]
    exact fresh_run h4 h5 h6
  | false=>
    rw [hg,rowFor_false] at h4
    simp only [Bool.false_eq_true,if_false,rowFor_false]
    exact fresh_run h4 h5 h6
 ·cases h
theorem grip_wrap {g d h:Int} (hg:0 ≤ g ∧ g ≤ 1000) (hd:0 ≤ d ∧ d ≤ 1000) (hh:0 ≤ h ∧ h ≤ 1000000) :
    IntKind.i64.wrap (g - IntKind.i64.wrap (Int.tdiv (IntKind.i64.wrap (IntKind.i64.wrap (g * d) * h)) (1000000000:Int))) = gripV g d h:=by
 unfold gripV
 have h1:(g * d).natAbs ≤ 1000 * 1000:=mul_abs (by omega) (by omega)
 rw [wrap_abs h1 (by decide)]
 have h2:(g * d * h).natAbs ≤ 1000 * 1000 * 1000000:=mul_abs h1 (by omega)
 rw [wrap_abs h2 (by decide)]
 have h3:=@Lite.tdiv_abs _ 1000000000 _ h2
 rw [wrap_abs h3 (by decide)]
 generalize (g * d * h).tdiv 1000000000 = x at *
 exact wrap_id (by omega) (by omega)
theorem ok48 (n:Nat):FnOK C (n + 3) 48 (mkF s48 G48):=by
 refine fn_of hC (sp:=sp48) (lp:=lp48) ⟨ok79 n,trivial⟩ (by kernel_rfl) [] (by kernel_rfl) rfl (fun k hk=>by cases hk) fun ds r h=>?_
 unfold G48 at h
 split at h
 ·rename_i a b c d e f g h0
  obtain ⟨hp,h⟩:=need_some h
  rw [yes_iff] at hp
  obtain ⟨hs,h5,h6,h7,h8,h9,h10⟩:=hp
  rw [← h]
  refine (congrArg T.run (t48 a b c d e f g h0)).trans ?_
  rw [need_yes ⟨hs,h5,h6⟩,run_need,if_pos rfl,grip_wrap (freshV_range hs.2.2.2) ⟨h7,h8⟩ ⟨h9,h10⟩]
  rfl
 ·cases h
theorem surf_of {dry wet wear:List (List D)} {loss e:Int} {w:Bool} (h:compoundOk dry wet wear loss = true) (h2:within e 0 (dry.length - 1) = true):surfOk dry wet e w ∧ 0 ≤ loss ∧ loss ≤ 1000:=by
 simp only [compoundOk,Bool.and_eq_true,Lite.within_iff,decide_eq_true_eq,rowsOk,allFrom_iff] at h h2
 obtain ⟨⟨⟨⟨⟨⟨h3,h4⟩,h5⟩,h6⟩,h7⟩,h8⟩,h9⟩:=h
 refine ⟨⟨h2.1,by omega,by omega,?_⟩,h6⟩
 cases w with
 | true=>exact h8 _ (by omega) (by omega)
 | false=>exact h7 _ (by omega) (by omega)
set_option linter.unusedVariables false
set_option maxRecDepth 100000
theorem t24 (a b:D):fnT C tab24 24 s24 [a,b] =
 T.ite ((a.L.length:Int) != (b.L.length:Int)) (T.leaf [D.b false]) (T.need (yes (a.L.length < big ∧ a.L.length = b.L.length ∧ (0:Int) ≤ (0:Int) ∧ (0:Int) ≤ (a.L.length:Int))) (T.ite (allFrom (sameAt a.L b.L) (Int.toNat (0:Int)) (a.L.length - Int.toNat (0:Int))) (T.leaf [D.b true]) (T.leaf [D.b false]))):=by kernel_rfl
theorem t24_4 (a b c:D):roundT C tab24 24 (loopOf C.P 24 4) l24_4 [a,b,c] =
 T.ite (decide (c.I < (a.L.length:Int))) (T.need (decide ((0:Int) ≤ c.I ∧ c.I < (a.L.length:Int))) (T.need (decide ((0:Int) ≤ c.I ∧ c.I < (b.L.length:Int))) (T.ite (D.I (List.getD (List.getD a.L c.I.toNat []) 0 default) != D.I (List.getD (List.getD b.L c.I.toNat []) 0 default)) (T.leaf (Rd.out Ex.ret [D.b false])) (T.leaf (Rd.again [D.l a.L,D.l b.L,D.i (IntKind.i64.wrap (c.I + (1:Int)))]))))) (T.leaf (Rd.out (Ex.exit 0) [])):=by kernel_rfl
theorem out_ok {G:List D → T (Ex × List D)} {μ:List D → Nat} {ds:List D} {r:Ex × List D} {X:Option Rd} (h:X = some (.out r.1 r.2)):RdOK G μ ds r X:=⟨_,h,.inr rfl⟩
theorem again_ok {G:List D → T (Ex × List D)} {μ:List D → Nat} {ds ds':List D} {r:Ex × List D} {X:Option Rd} (h:X = some (.again ds')) (h1:(G ds').run = some r) (h2:μ ds' < μ ds):RdOK G μ ds r X:=⟨_,h,.inl ⟨_,rfl,h1,h2⟩⟩
theorem ok24_4 (n:Nat):LoopSim C n 24 (loopOf C.P 24 4) (mkL l24_4 G24_4):=by
 refine loop_of hC (sp:=sp24) (lp:=lp24) trivial [] (by kernel_rfl) rfl (fun k hk=>by cases hk) (by kernel_rfl) (fun ds=>(((ds.getD 0 default).L.length:Int) - (ds.getD 2 default).I).toNat) fun ds r h=>?_
 unfold G24_4 at h
 split at h
 ·rename_i a b i
  obtain ⟨hp,h⟩:=need_some h
  rw [yes_iff] at hp
  obtain ⟨h1,h2,h3,h4⟩:=hp
  have hb:big = 4611686018427387904:=rfl
  refine ⟨by rw [fuelC]; simp; omega,?_⟩
  rw [show roundT C (mkTab sp24 lp24) 24 (loopOf C.P 24 4) l24_4 [a,b,i] = _ from t24_4 a b i]
  obtain ⟨k,hk⟩:∃ k:Nat,i.I = k:=⟨i.I.toNat,by omega⟩
  simp only [run_ite,run_need,run_leaf,hk,Int.toNat_natCast] at h h4 ⊢
  refine all_loop (p:=sameAt a.L b.L) (i:=k) (len:=a.L.length) [D.l a.L,D.l b.L,D.i (k + 1:Nat)] h ?_ ?_
  ·simp only [wrap_succ (show k < 9223372036854775807 by omega),ix_def,sameAt]
   grind
  ·intro hlt hp hh
   refine ⟨Eq.trans (need_yes (p:=_) (t:=_) ?_) hh,?_⟩
   ·simp only [I_i,L_l]
    exact ⟨h1,h2,by omega,by omega⟩
   ·show ((a.L.length:Int) - ((k + 1:Nat):Int)).toNat < ((a.L.length:Int) - i.I).toNat
    omega
 ·cases h
theorem ok24 (n:Nat):FnOK C (n + 1) 24 (mkF s24 G24):=by
 refine fn_of hC (sp:=sp24) (lp:=lp24) trivial (by kernel_rfl) [4] (by kernel_rfl) (by kernel_rfl) (fun k hk L hL=>by simp at hk; subst hk; cases hL; exact ok24_4 n) fun ds r h=>?_
 unfold G24 at h
 split at h
 ·rename_i a b
  obtain ⟨hp,h⟩:=need_some h
  rw [yes_iff] at hp
  rw [← h]
  refine (congrArg T.run (t24 a b)).trans ?_
  have e1:((a.L.length:Int) = b.L.length) ↔ a.L.length = b.L.length:=Int.ofNat_inj
  simp only [run_ite,run_need,run_leaf,yes_iff,Int.toNat_zero,Nat.sub_zero,sameL]
  grind
 ·cases h
set_option linter.unusedVariables false
set_option maxRecDepth 100000
theorem t92 (a b c d e:D):fnT C tab92 92 s92 [a,b,c,d,e] =
 T.ite (!within a.I (0:Int) (IntKind.i64.wrap (e.I - (1:Int)))) (T.leaf [D.b true]) (T.ite (!within b.I (0:Int) (100000:Int)) (T.leaf [D.b true]) (T.leaf [D.b !within c.I (-40:Int) (80:Int)])):=by kernel_rfl
theorem t104 (a b:D):fnT C tab104 104 s104 [a,b] =
 T.need (yes (a.L.length < big ∧ fewN b.I ∧ (a.L.length:Int) = (a.L.length:Int) ∧ (0:Int) ≤ (0:Int) ∧ (0:Int) ≤ (a.L.length:Int))) (T.ite (decide (firstFrom (fun j=>!stretchAt a.L b.I j) (Int.toNat (0:Int)) (a.L.length - Int.toNat (0:Int)) ≥ (0:Int))) (T.leaf [D.i (firstFrom (fun j=>!stretchAt a.L b.I j) (Int.toNat (0:Int)) (a.L.length - Int.toNat (0:Int)))]) (T.leaf [D.i (-1:Int)])):=by kernel_rfl
theorem t104_2 (a b c d:D):roundT C tab104 104 (loopOf C.P 104 2) l104_2 [a,b,c,d] =
 T.ite (decide (d.I < c.I)) (T.need (decide ((0:Int) ≤ d.I ∧ d.I < (a.L.length:Int))) (T.need (yes (fewN b.I)) (T.ite (!stretchP b.I (D.I (List.getD (List.getD a.L d.I.toNat []) 0 default)) (D.I (List.getD (List.getD a.L d.I.toNat []) (0 + 1) default)) (D.I (List.getD (List.getD a.L d.I.toNat []) (0 + 1 + 1) default))) (T.leaf (Rd.out Ex.ret [D.i d.I])) (T.leaf (Rd.again [D.l a.L,D.i b.I,D.i c.I,D.i (IntKind.i64.wrap (d.I + (1:Int)))]))))) (T.leaf (Rd.out (Ex.exit 0) [])):=by kernel_rfl
theorem t91 (a b:D):fnT C tab91 91 s91 [a,b] =
 T.need (yes (a.L.length < big ∧ fewN b.I)) (T.leaf [D.b (decide (firstFrom (fun j=>!stretchAt a.L b.I j) 0 a.L.length ≥ (0:Int)))]):=by kernel_rfl
theorem t69 (a b:D):fnT C tab69 69 s69 [a,b] =
 T.ite (decide ((a.L.length:Int) ≤ (30:Int))) (T.need (yes (a.L.length < big ∧ fewN b.I)) (T.leaf [D.b !!allFrom (stretchAt a.L b.I) 0 a.L.length])) (T.leaf [D.b false]):=by kernel_rfl
theorem t70 (a b c d e f:D):fnT C tab70 70 s70 [a,b,c,d,e,f] =
 T.need (yes (drivePre a.L b.L c.L d.I e.L ∧ (0:Int) ≤ f.I ∧ f.I ≤ (1000000:Int) ∧ (e.L.length:Int) = (e.L.length:Int) ∧ (0:Int) ≤ (0:Int) ∧ (0:Int) ≤ (e.L.length:Int) ∧ (0:Int) ≤ (0:Int) ∧ (0:Int) ≤ (100000:Int) * (0:Int))) (T.leaf [D.i (driveFrom a.L b.L c.L d.I e.L (Int.toNat (0:Int)) (e.L.length - Int.toNat (0:Int)) f.I (0:Int) true).snd.fst,D.i (driveFrom a.L b.L c.L d.I e.L (Int.toNat (0:Int)) (e.L.length - Int.toNat (0:Int)) f.I (0:Int) true).fst,D.b (driveFrom a.L b.L c.L d.I e.L (Int.toNat (0:Int)) (e.L.length - Int.toNat (0:Int)) f.I (0:Int) true).snd.snd]):=by kernel_rfl
theorem t70_3 (a b c d e f g h i j:D):roundT C tab70 70 (loopOf C.P 70 3) l70_3 [a,b,c,d,e,f,g,h,i,j] =
 T.ite (decide (f.I < e.I)) (T.need (decide ((0:Int) ≤ f.I ∧ f.I < (d.L.length:Int))) (T.need (yes (surfOk g.L h.L (D.I (List.getD (List.getD d.L f.I.toNat []) 0 default)) (D.B (List.getD (List.getD d.L f.I.toNat []) (0 + 1 + 1 + 1) default)) ∧ (-40:Int) ≤ D.I (List.getD (List.getD d.L f.I.toNat []) (0 + 1 + 1) default) ∧ D.I (List.getD (List.getD d.L f.I.toNat []) (0 + 1 + 1) default) ≤ (80:Int) ∧ (0:Int) ≤ j.I ∧ j.I ≤ (1000:Int) ∧ (0:Int) ≤ a.I ∧ a.I ≤ (1000000:Int))) (T.need true (T.need (decide ((0:Int) ≤ D.I (List.getD (List.getD d.L f.I.toNat []) 0 default) ∧ D.I (List.getD (List.getD d.L f.I.toNat []) 0 default) < (i.L.length:Int))) (T.ite (decide (IntKind.i64.wrap (a.I + IntKind.i64.wrap (D.I (List.getD (List.getD d.L f.I.toNat []) (0 + 1) default) * D.I (List.getD (List.getD i.L (Int.toNat (D.I (List.getD (List.getD d.L f.I.toNat []) 0 default))) []) 0 default))) > (1000000:Int))) (T.leaf (Rd.again [D.i 1000000,D.i (IntKind.i64.wrap (b.I + IntKind.i64.wrap (Int.tdiv (IntKind.i64.wrap (D.I (List.getD (List.getD d.L f.I.toNat []) (0 + 1) default) * IntKind.i64.wrap ((1000:Int) - gripC g.L h.L j.I (D.I (List.getD (List.getD d.L f.I.toNat []) 0 default)) (D.I (List.getD (List.getD d.L f.I.toNat []) (0 + 1 + 1) default)) (D.B (List.getD (List.getD d.L f.I.toNat []) (0 + 1 + 1 + 1) default)) a.I))) (1000:Int)))),D.b false,D.l d.L,D.i e.I,D.i (IntKind.i64.wrap (f.I + (1:Int))),D.l g.L,D.l h.L,D.l i.L,D.i j.I])) (T.leaf (Rd.again [D.i (IntKind.i64.wrap (a.I + IntKind.i64.wrap (D.I (List.getD (List.getD d.L f.I.toNat []) (0 + 1) default) * D.I (List.getD (List.getD i.L (Int.toNat (D.I (List.getD (List.getD d.L f.I.toNat []) 0 default))) []) 0 default)))),D.i (IntKind.i64.wrap (b.I + IntKind.i64.wrap (Int.tdiv (IntKind.i64.wrap (D.I (List.getD (List.getD d.L f.I.toNat []) (0 + 1) default) * IntKind.i64.wrap ((1000:Int) - gripC g.L h.L j.I (D.I (List.getD (List.getD d.L f.I.toNat []) 0 default)) (D.I (List.getD (List.getD d.L f.I.toNat []) (0 + 1 + 1) default)) (D.B (List.getD (List.getD d.L f.I.toNat []) (0 + 1 + 1 + 1) default)) a.I))) (1000:Int)))),D.b c.B,D.l d.L,D.i e.I,D.i (IntKind.i64.wrap (f.I + (1:Int))),D.l g.L,D.l h.L,D.l i.L,D.i j.I]))))))) (T.leaf (Rd.out (Ex.exit 0) [D.i a.I,D.i b.I,D.b c.B])):=by kernel_rfl
theorem t37 (a b:D):fnT C tab37 37 s37 [a,b] =
 T.need (yes (fewN b.I ∧ a.L.length < lim ∧ (0:Int) ≤ (0:Int) ∧ (0:Int) ≤ (a.L.length:Int))) (T.ite (allFrom (stretchAt a.L b.I) (Int.toNat (0:Int)) (a.L.length - Int.toNat (0:Int))) (T.leaf [D.b (decide ((a.L.length:Int) ≤ (30:Int)))]) (T.leaf [D.b false])):=by kernel_rfl
theorem t37_2 (a b c:D):roundT C tab37 37 (loopOf C.P 37 2) l37_2 [a,b,c] =
 T.ite (decide (c.I < (a.L.length:Int))) (T.need (decide ((0:Int) ≤ c.I ∧ c.I < (a.L.length:Int))) (T.ite (!within (D.I (List.getD (List.getD a.L c.I.toNat []) 0 default)) (0:Int) (IntKind.i64.wrap (b.I - (1:Int)))) (T.leaf (Rd.out Ex.ret [D.b false])) (T.need (decide ((0:Int) ≤ c.I ∧ c.I < (a.L.length:Int))) (T.ite (!within (D.I (List.getD (List.getD a.L c.I.toNat []) (0 + 1) default)) (0:Int) (100000:Int)) (T.leaf (Rd.out Ex.ret [D.b false])) (T.need (decide ((0:Int) ≤ c.I ∧ c.I < (a.L.length:Int))) (T.ite (!within (D.I (List.getD (List.getD a.L c.I.toNat []) (0 + 1 + 1) default)) (-40:Int) (80:Int)) (T.leaf (Rd.out Ex.ret [D.b false])) (T.leaf (Rd.again [D.l a.L,D.i b.I,D.i (IntKind.i64.wrap (c.I + (1:Int)))])))))))) (T.leaf (Rd.out (Ex.exit 0) [D.l a.L])):=by kernel_rfl
theorem t38 (a b c d e f:D):fnT C tab38 38 s38 [a,b,c,d,e,f] =
 T.need (yes (drivePre a.L b.L c.L d.I e.L ∧ (0:Int) ≤ f.I ∧ f.I ≤ (1000000:Int) ∧ (0:Int) ≤ (0:Int) ∧ (0:Int) ≤ (e.L.length:Int) ∧ (0:Int) ≤ (0:Int) ∧ (0:Int) ≤ (100000:Int) * (0:Int))) (T.leaf [D.i (driveFrom a.L b.L c.L d.I e.L (Int.toNat (0:Int)) (e.L.length - Int.toNat (0:Int)) f.I (0:Int) true).snd.fst,D.i (driveFrom a.L b.L c.L d.I e.L (Int.toNat (0:Int)) (e.L.length - Int.toNat (0:Int)) f.I (0:Int) true).fst]):=by kernel_rfl
theorem t38_3 (a b c d e f g h:D):roundT C tab38 38 (loopOf C.P 38 3) l38_3 [a,b,c,d,e,f,g,h] =
 T.ite (decide (d.I < (a.L.length:Int))) (T.need (decide ((0:Int) ≤ d.I ∧ d.I < (a.L.length:Int))) (T.need (yes (surfOk e.L f.L (D.I (List.getD (List.getD a.L d.I.toNat []) 0 default)) (D.B (List.getD (List.getD a.L d.I.toNat []) (0 + 1 + 1 + 1) default)) ∧ (-40:Int) ≤ D.I (List.getD (List.getD a.L d.I.toNat []) (0 + 1 + 1) default) ∧ D.I (List.getD (List.getD a.L d.I.toNat []) (0 + 1 + 1) default) ≤ (80:Int) ∧ (0:Int) ≤ h.I ∧ h.I ≤ (1000:Int) ∧ (0:Int) ≤ b.I ∧ b.I ≤ (1000000:Int))) (T.need true (T.need (decide ((0:Int) ≤ D.I (List.getD (List.getD a.L d.I.toNat []) 0 default) ∧ D.I (List.getD (List.getD a.L d.I.toNat []) 0 default) < (g.L.length:Int))) (T.leaf (Rd.again [D.l a.L,D.i (if IntKind.i64.wrap (b.I + IntKind.i64.wrap (D.I (List.getD (List.getD a.L d.I.toNat []) (0 + 1) default) * D.I (List.getD (List.getD g.L (Int.toNat (D.I (List.getD (List.getD a.L d.I.toNat []) 0 default))) []) 0 default))) < (1000000:Int) then IntKind.i64.wrap (b.I + IntKind.i64.wrap (D.I (List.getD (List.getD a.L d.I.toNat []) (0 + 1) default) * D.I (List.getD (List.getD g.L (Int.toNat (D.I (List.getD (List.getD a.L d.I.toNat []) 0 default))) []) 0 default))) else (1000000:Int)),D.i (IntKind.i64.wrap (c.I + IntKind.i64.wrap (Int.tdiv (IntKind.i64.wrap (D.I (List.getD (List.getD a.L d.I.toNat []) (0 + 1) default) * IntKind.i64.wrap ((1000:Int) - gripC e.L f.L h.I (D.I (List.getD (List.getD a.L d.I.toNat []) 0 default)) (D.I (List.getD (List.getD a.L d.I.toNat []) (0 + 1 + 1) default)) (D.B (List.getD (List.getD a.L d.I.toNat []) (0 + 1 + 1 + 1) default)) b.I))) (1000:Int)))),D.i (IntKind.i64.wrap (d.I + (1:Int))),D.l e.L,D.l f.L,D.l g.L,D.i h.I])))))) (T.leaf (Rd.out (Ex.exit 0) [D.i b.I,D.i c.I])):=by kernel_rfl
theorem t39 (a b c d e:D):fnT C tab39 39 s39 [a,b,c,d,e] =
 T.need (yes (drivePre a.L b.L c.L d.I e.L ∧ (0:Int) ≤ (0:Int) ∧ (0:Int) ≤ (e.L.length:Int) ∧ (0:Int) ≤ (0:Int) ∧ (0:Int) ≤ (100000000:Int) * (0:Int))) (T.leaf [D.i ((0:Int) + useFrom c.L e.L (Int.toNat (0:Int)) (e.L.length - Int.toNat (0:Int)))]):=by kernel_rfl
theorem t39_3 (a b c d e f g:D):roundT C tab39 39 (loopOf C.P 39 3) l39_3 [a,b,c,d,e,f,g] =
 T.ite (decide (c.I < (a.L.length:Int))) (T.need (decide ((0:Int) ≤ c.I ∧ c.I < (a.L.length:Int))) (T.need (decide ((0:Int) ≤ c.I ∧ c.I < (a.L.length:Int))) (T.need (decide ((0:Int) ≤ D.I (List.getD (List.getD a.L c.I.toNat []) 0 default) ∧ D.I (List.getD (List.getD a.L c.I.toNat []) 0 default) < (f.L.length:Int))) (T.leaf (Rd.again [D.l a.L,D.i (IntKind.i64.wrap (b.I + IntKind.i64.wrap (D.I (List.getD (List.getD a.L c.I.toNat []) (0 + 1) default) * D.I (List.getD (List.getD f.L (Int.toNat (D.I (List.getD (List.getD a.L c.I.toNat []) 0 default))) []) 0 default)))),D.i (IntKind.i64.wrap (c.I + (1:Int))),D.l d.L,D.l e.L,D.l f.L,D.i g.I]))))) (T.leaf (Rd.out (Ex.exit 0) [D.i b.I])):=by kernel_rfl
theorem drive_comp {dry wet wl:List (List D)} {loss:Int} (h:compoundOk dry wet wl loss = true):dry.length ≤ 8 ∧ wet.length = dry.length ∧ wl.length = dry.length ∧ (0 ≤ loss ∧ loss ≤ 1000) ∧ ∀ j,j < dry.length → 0 ≤ ix (wl.getD j []) 0 ∧ ix (wl.getD j []) 0 ≤ 1000:=by
 simp only [compoundOk,Bool.and_eq_true,Lite.within_iff,decide_eq_true_eq,rowsOk,wearOk,allFrom_iff] at h
 obtain ⟨⟨⟨⟨⟨⟨h3,h4⟩,h5⟩,h6⟩,h7⟩,h8⟩,h9⟩:=h
 exact ⟨by omega,h4,h5,h6,fun j hj=>h9 j (Nat.zero_le _) (by omega)⟩
theorem stretch_of {l:List (List D)} {n:Int} (h:loopOk l n = true):l.length ≤ 30 ∧ ∀ j,j < l.length → (0 ≤ ix (l.getD j []) 0 ∧ ix (l.getD j []) 0 ≤ n - 1) ∧ (0 ≤ ix (l.getD j []) 1 ∧ ix (l.getD j []) 1 ≤ 100000) ∧ (-40 ≤ ix (l.getD j []) 2 ∧ ix (l.getD j []) 2 ≤ 80):=by
 simp only [loopOk,Bool.and_eq_true,decide_eq_true_eq,allFrom_iff,stretchAt,stretchP,Lite.within_iff] at h
 exact ⟨h.1,fun j hj=>by have:=h.2 j (Nat.zero_le _) (by omega); exact ⟨this.1.1,this.1.2,this.2⟩⟩
theorem gripV_rng {g d h:Int} (hg:0 ≤ g ∧ g ≤ 1000) (hd:0 ≤ d ∧ d ≤ 1000) (hh:0 ≤ h ∧ h ≤ 1000000):0 ≤ gripV g d h ∧ gripV g d h ≤ 1000:=by
 unfold gripV
 have h1:0 ≤ d * h:=Int.mul_nonneg hd.1 hh.1
 have h2:d * h ≤ 1000 * 1000000:=Int.mul_le_mul hd.2 hh.2 hh.1 (by omega)
 have:=@Lite.tdiv_between g (d * h) 1000000000 h1 (by omega) (by omega)
 rw [Int.mul_assoc]
 generalize (g * (d * h)).tdiv 1000000000 = x at *
 omega
theorem step_of {dry wet wl:List (List D)} {loss w:Int} {l:List (List D)} (hp:drivePre dry wet wl loss l) (hw:0 ≤ w ∧ w ≤ 1000000) {j:Nat} (hj:j < l.length) :
    surfOk dry wet (ix (l.getD j []) 0) (bx (l.getD j []) 3) ∧ (-40 ≤ ix (l.getD j []) 2 ∧ ix (l.getD j []) 2 ≤ 80) ∧ (0 ≤ loss ∧ loss ≤ 1000) ∧ (0 ≤ ix (l.getD j []) 0 ∧ ix (l.getD j []) 0 < (wl.length:Int)) ∧
    (0 ≤ ix (l.getD j []) 1 ∧ ix (l.getD j []) 1 ≤ 100000) ∧ (0 ≤ ix (wl.getD (ix (l.getD j []) 0).toNat []) 0 ∧ ix (wl.getD (ix (l.getD j []) 0).toNat []) 0 ≤ 1000) ∧
    (0 ≤ gripC dry wet loss (ix (l.getD j []) 0) (ix (l.getD j []) 2) (bx (l.getD j []) 3) w ∧ gripC dry wet loss (ix (l.getD j []) 0) (ix (l.getD j []) 2) (bx (l.getD j []) 3) w ≤ 1000) ∧
    (0 ≤ stepLoss dry wet loss w (l.getD j []) ∧ stepLoss dry wet loss w (l.getD j []) ≤ 100000) ∧
    (0 ≤ ix (l.getD j []) 1 * ix (wl.getD (ix (l.getD j []) 0).toNat []) 0 ∧ ix (l.getD j []) 1 * ix (wl.getD (ix (l.getD j []) 0).toNat []) 0 ≤ 100000000):=by
 obtain ⟨c1,c2,c3,c4,c5⟩:=drive_comp hp.1
 obtain ⟨s1,s2⟩:=stretch_of hp.2
 obtain ⟨a1,a2,a3⟩:=s2 j hj
 have hs:=surf_of (w:=bx (l.getD j []) 3) hp.1 (Lite.within_iff.2 a1)
 have hwl:=c5 (ix (l.getD j []) 0).toNat (by omega)
 have hg:0 ≤ gripC dry wet loss (ix (l.getD j []) 0) (ix (l.getD j []) 2) (bx (l.getD j []) 3) w ∧ gripC dry wet loss (ix (l.getD j []) 0) (ix (l.getD j []) 2) (bx (l.getD j []) 3) w ≤ 1000:=gripV_rng (freshV_range hs.1.2.2.2) c4 hw
 refine ⟨hs.1,a3,c4,⟨a1.1,by omega⟩,a2,hwl,hg,?_,?_⟩
 ·unfold stepLoss
  generalize gripC dry wet loss (ix (l.getD j []) 0) (ix (l.getD j []) 2) (bx (l.getD j []) 3) w = g at *
  have:=(@Lite.tdiv_between (ix (l.getD j []) 1) (1000 - g) 1000 (by omega) (by omega) (by omega)).1 a2.1
  omega
 ·exact ⟨Int.mul_nonneg a2.1 hwl.1,Int.le_trans (Int.mul_le_mul a2.2 hwl.2 hwl.1 (by omega)) (by decide)⟩
theorem ok92 (n:Nat):FnOK C (n + 2) 92 (mkF s92 G92):=by
 refine fn_of hC (sp:=sp92) (lp:=lp92) ⟨ok47 n,trivial⟩ (by kernel_rfl) [] (by kernel_rfl) rfl (fun k hk=>by cases hk) fun ds r h=>?_
 unfold G92 at h
 split at h
 ·rename_i a b c u m
  obtain ⟨hp,h⟩:=need_some h
  rw [yes_iff] at hp
  rw [← h]
  refine (congrArg T.run (t92 a b c u m)).trans ?_
  have hw:IntKind.i64.wrap (m.I - 1) = m.I - 1:=wrap_id (by have:=hp.1; omega) (by have:=hp.2; omega)
  simp only [run_ite,run_leaf,stretchP,hw]
  grind
 ·cases h
theorem ok104_2 (n:Nat):LoopSim C (n + 2) 104 (loopOf C.P 104 2) (mkL l104_2 G104_2):=by
 refine loop_of hC (sp:=sp104) (lp:=lp104) ⟨ok92 n,trivial⟩ [] (by kernel_rfl) rfl (fun k hk=>by cases hk) (by kernel_rfl) (fun ds=>((ds.getD 2 default).I - (ds.getD 3 default).I).toNat) fun ds r h=>?_
 unfold G104_2 at h
 split at h
 ·rename_i l s m i
  obtain ⟨hp,h⟩:=need_some h
  rw [yes_iff] at hp
  obtain ⟨h1,h2,h3,h4,h5⟩:=hp
  have hb:big = 4611686018427387904:=rfl
  refine ⟨by rw [fuelC]; simp; omega,?_⟩
  rw [show roundT C (mkTab sp104 lp104) 104 (loopOf C.P 104 2) l104_2 [l,s,m,i] = _ from t104_2 l s m i]
  obtain ⟨k,hk⟩:∃ k:Nat,i.I = k:=⟨i.I.toNat,by omega⟩
  simp only [run_ite,run_need,run_leaf,hk,h3,yes_true h2,Int.toNat_natCast] at h h5 ⊢
  refine first_loop (p:=fun j=>!stretchAt l.L s.I j) (i:=k) (len:=l.L.length) [D.l l.L,D.i s.I,D.i l.L.length,D.i (k + 1:Nat)] h ?_ ?_
  ·simp only [wrap_succ (show k < 9223372036854775807 by omega),ix_def,Nat.zero_add,stretchAt]
   grind
  ·intro hlt hp hh
   refine ⟨Eq.trans (need_yes (p:=_) (t:=_) ?_) hh,?_⟩
   ·simp only [I_i,L_l]
    exact ⟨h1,h2,trivial,by omega,by omega⟩
   ·show ((l.L.length:Int) - ((k + 1:Nat):Int)).toNat < (m.I - i.I).toNat
    omega
 ·cases h
theorem ok104 (n:Nat):FnOK C (n + 3) 104 (mkF s104 G104):=by
 refine fn_of hC (sp:=sp104) (lp:=lp104) ⟨ok92 n,trivial⟩ (by kernel_rfl) [2] (by kernel_rfl) (by kernel_rfl) (fun k hk L hL=>by simp at hk; subst hk; cases hL; exact ok104_2 n) fun ds r h=>?_
 unfold G104 at h
 split at h
 ·rename_i l s
  obtain ⟨hp,h⟩:=need_some h
  rw [yes_iff] at hp
  rw [← h]
  refine (congrArg T.run (t104 l s)).trans ?_
  refine (need_yes ⟨hp.1,hp.2,by omega,by omega,by omega⟩).trans ?_
  simp only [run_ite,run_leaf,Int.toNat_zero,Nat.sub_zero]
  split
  ·rfl
  ·rename_i hc
   have:¬ firstFrom (fun j=>!stretchAt l.L s.I j) 0 l.L.length ≥ 0:=fun hh=>hc (decide_eq_true hh)
   rw [firstFrom_neg (by omega)]
 ·cases h
theorem ok91 (n:Nat):FnOK C (n + 4) 91 (mkF s91 G91):=by
 refine fn_of hC (sp:=sp91) (lp:=lp91) ⟨ok104 n,ok92 (n + 1),trivial⟩ (by kernel_rfl) [] (by kernel_rfl) rfl (fun k hk=>by cases hk) fun ds r h=>?_
 unfold G91 at h
 split at h
 ·rename_i l s
  rw [← h]
  refine (congrArg T.run (t91 l s)).trans ?_
  rw [firstFrom_all]
  simp only [Bool.not_not]
 ·cases h
theorem ok69 (n:Nat):FnOK C (n + 5) 69 (mkF s69 G69):=by
 refine fn_of hC (sp:=sp69) (lp:=lp69) ⟨ok91 n,ok92 (n + 2),trivial⟩ (by kernel_rfl) [] (by kernel_rfl) rfl (fun k hk=>by cases hk) fun ds r h=>?_
 unfold G69 at h
 split at h
 ·rename_i l s
  obtain ⟨hp,h⟩:=need_some h
  rw [yes_iff] at hp
  rw [← h]
  refine (congrArg T.run (t69 l s)).trans ?_
  have hb:big = 4611686018427387904:=rfl
  simp only [run_ite,run_need,run_leaf,loopOk]
  by_cases hl:l.L.length ≤ 30
  ·have hl':(l.L.length:Int) ≤ 30:=by omega
   simp [hl,hl',yes_true (p:=l.L.length < big ∧ fewN s.I) ⟨by omega,hp⟩]
  ·have hl':¬ (l.L.length:Int) ≤ 30:=by omega
   simp [hl,hl']
 ·cases h
theorem ok70_3 (n:Nat):LoopSim C (n + 3) 70 (loopOf C.P 70 3) (mkL l70_3 G70_3):=by
 refine loop_of hC (sp:=sp70) (lp:=lp70) ⟨ok48 n,trivial⟩ [] (by kernel_rfl) rfl (fun k hk=>by cases hk) (by kernel_rfl) (fun ds=>((ds.getD 4 default).I - (ds.getD 5 default).I).toNat) fun ds r h=>?_
 unfold G70_3 at h
 split at h
 ·rename_i w s q l m i a b c d
  obtain ⟨hp,h⟩:=need_some h
  rw [yes_iff] at hp
  obtain ⟨h1,h2,h3,h4,h5,h6,h7,h8⟩:=hp
  have hb:big = 4611686018427387904:=rfl
  have hlen:=(stretch_of h1.2).1
  refine ⟨by rw [fuelC]; simp; omega,?_⟩
  rw [show roundT C (mkTab sp70 lp70) 70 (loopOf C.P 70 3) l70_3 [w,s,q,l,m,i,a,b,c,d] = _ from t70_3 w s q l m i a b c d]
  obtain ⟨k,hk⟩:∃ k:Nat,i.I = k:=⟨i.I.toNat,by omega⟩
  simp only [run_ite,run_need,run_leaf,hk,h4,Int.toNat_natCast] at h h6 h8 ⊢
  by_cases hlt:k < l.L.length
  ·obtain ⟨p1,p2,p3,p4,p5,p6,p7,p8,p9⟩:=step_of h1 (w:=w.I) ⟨h2,h3⟩ hlt
   have d0:decide ((k:Int) < (l.L.length:Int)) = true:=decide_eq_true (by omega)
   have d1:decide ((0:Int) ≤ (k:Int) ∧ (k:Int) < (l.L.length:Int)) = true:=decide_eq_true ⟨by omega,by omega⟩
   have d2:=yes_true (p:=surfOk a.L b.L (ix (l.L.getD k []) 0) (bx (l.L.getD k []) 3) ∧ -40 ≤ ix (l.L.getD k []) 2 ∧ ix (l.L.getD k []) 2 ≤ 80 ∧ 0 ≤ d.I ∧ d.I ≤ 1000 ∧ 0 ≤ w.I ∧ w.I ≤ 1000000) ⟨p1,p2.1,p2.2,p3.1,p3.2,h2,h3⟩
   have d3:(0 ≤ ix (l.L.getD k []) 0 ∧ ix (l.L.getD k []) 0 < (c.L.length:Int)) = True:=eq_true p4
   have e8:stepLoss a.L b.L d.I w.I (l.L.getD k []) = (ix (l.L.getD k []) 1 * (1000 - gripC a.L b.L d.I (ix (l.L.getD k []) 0) (ix (l.L.getD k []) 2) (bx (l.L.getD k []) 3) w.I)).tdiv 1000:=rfl
   have e9:stepWear c.L w.I (l.L.getD k []) = w.I + ix (l.L.getD k []) 1 * ix (c.L.getD (ix (l.L.getD k []) 0).toNat []) 0:=rfl
   have w0:IntKind.i64.wrap (1000 - gripC a.L b.L d.I (ix (l.L.getD k []) 0) (ix (l.L.getD k []) 2) (bx (l.L.getD k []) 3) w.I) = 1000 - gripC a.L b.L d.I (ix (l.L.getD k []) 0) (ix (l.L.getD k []) 2) (bx (l.L.getD k []) 3) w.I:=wrap_id (by omega) (by omega)
   have w1:IntKind.i64.wrap (ix (l.L.getD k []) 1 * (1000 - gripC a.L b.L d.I (ix (l.L.getD k []) 0) (ix (l.L.getD k []) 2) (bx (l.L.getD k []) 3) w.I)) = ix (l.L.getD k []) 1 * (1000 - gripC a.L b.L d.I (ix (l.L.getD k []) 0) (ix (l.L.getD k []) 2) (bx (l.L.getD k []) 3) w.I):=wrap_abs (mul_abs (A:=100000) (B:=1000) (by omega) (by omega)) (by decide)
   have w2:IntKind.i64.wrap (stepLoss a.L b.L d.I w.I (l.L.getD k [])) = stepLoss a.L b.L d.I w.I (l.L.getD k []):=wrap_id (by omega) (by omega)
   have w3:IntKind.i64.wrap (s.I + stepLoss a.L b.L d.I w.I (l.L.getD k [])) = s.I + stepLoss a.L b.L d.I w.I (l.L.getD k []):=wrap_id (by omega) (by omega)
   have w4:IntKind.i64.wrap (ix (l.L.getD k []) 1 * ix (c.L.getD (ix (l.L.getD k []) 0).toNat []) 0) = ix (l.L.getD k []) 1 * ix (c.L.getD (ix (l.L.getD k []) 0).toNat []) 0:=wrap_id (by omega) (by omega)
   have w5:IntKind.i64.wrap (w.I + ix (l.L.getD k []) 1 * ix (c.L.getD (ix (l.L.getD k []) 0).toNat []) 0) = stepWear c.L w.I (l.L.getD k []):=wrap_id (by omega) (by omega)
   have e10:0 ≤ stepWear c.L w.I (l.L.getD k []):=by omega
   rw [show l.L.length - k = (l.L.length - (k + 1)) + 1 by omega] at h
   simp only [driveFrom] at h
   simp only [d0,d1,if_true,ix_def,bx_def,Nat.zero_add,show (0 + 1 + 1:Nat) = 2 from rfl,show (0 + 1 + 1 + 1:Nat) = 3 from rfl,wrap_succ (show k < 9223372036854775807 by omega)]
   simp only [d2,d3,decide_true,if_true,w0,w1,← e8,w2,w3,w4,w5]
   by_cases hc:stepWear c.L w.I (l.L.getD k []) > 1000000
   ·simp only [hc,if_true] at h
    simp only [hc,decide_true,if_true]
    refine again_ok rfl ?_ ?_
    ·refine (need_yes ⟨h1,by simp only [I_i]; omega,by simp only [I_i]; omega,by simp only [I_i,L_l],by simp only [I_i]; omega,by simp only [I_i]; omega,by simp only [I_i]; omega,by simp only [I_i]; omega⟩).trans ?_
     simp only [I_i,L_l,B_b,Int.toNat_natCast,run_leaf]
     exact h
    ·show ((l.L.length:Int) - ((k + 1:Nat):Int)).toNat < (m.I - i.I).toNat
     omega
   ·simp only [hc,if_false] at h
    simp only [hc,decide_false,Bool.false_eq_true,if_false]
    refine again_ok rfl ?_ ?_
    ·refine (need_yes ⟨h1,by simp only [I_i]; omega,by simp only [I_i]; omega,by simp only [I_i,L_l],by simp only [I_i]; omega,by simp only [I_i]; omega,by simp only [I_i]; omega,by simp only [I_i]; omega⟩).trans ?_
     simp only [I_i,L_l,B_b,Int.toNat_natCast,run_leaf]
     exact h
    ·show ((l.L.length:Int) - ((k + 1:Nat):Int)).toNat < (m.I - i.I).toNat
     omega
  ·rw [show l.L.length - k = 0 by omega] at h
   simp only [driveFrom,Option.some.injEq] at h
   subst h
   rw [if_neg (by simpa using hlt)]
   exact out_ok rfl
 ·cases h
theorem ok70 (n:Nat):FnOK C (n + 4) 70 (mkF s70 G70):=by
 refine fn_of hC (sp:=sp70) (lp:=lp70) ⟨ok48 n,trivial⟩ (by kernel_rfl) [3] (by kernel_rfl) (by kernel_rfl) (fun k hk L hL=>by simp at hk; subst hk; cases hL; exact ok70_3 n) fun ds r h=>?_
 unfold G70 at h
 split at h
 ·rename_i a b c d l w
  obtain ⟨hp,h⟩:=need_some h
  rw [yes_iff] at hp
  rw [← h]
  refine (congrArg T.run (t70 a b c d l w)).trans ?_
  exact need_yes ⟨hp.1,hp.2.1,hp.2.2,rfl,by omega,by omega,by omega,by omega⟩
 ·cases h
theorem ok51_4 (n:Nat):LoopSim C (n + 1) 51 (loopOf C.P 51 4) (mkL l51_4 G51_4):=by
 refine loop_of hC (sp:=sp51) (lp:=lp51) trivial [] (by kernel_rfl) rfl (fun k hk=>by cases hk) (by kernel_rfl) (fun ds=>(((ds.getD 0 default).L.length:Int) - (ds.getD 2 default).I).toNat) fun ds r h=>?_
 unfold G51_4 at h
 split at h
 ·rename_i b a c
  obtain ⟨hp,h⟩:=need_some h
  rw [yes_iff] at hp
  obtain ⟨h1,h2,h3,h4,h5⟩:=hp
  have hl:=row_len h1
  refine ⟨by rw [fuelC]; simp; omega,?_⟩
  rw [show roundT C (mkTab sp51 lp51) 51 (loopOf C.P 51 4) l51_4 [b,a,c] = _ from t51_4 b a c]
  obtain ⟨k,hk⟩:∃ k:Nat,c.I = k:=⟨c.I.toNat,by omega⟩
  simp only [run_ite,run_need,run_leaf,hk,Int.toNat_natCast] at h h4 ⊢
  refine find_loop (q:=fun j=>!decide (a.I ≤ ix (b.L.getD j []) 0)) (i:=k) (len:=b.L.length) (val:=fun i k=>(.ret,[.i (freshFrom b.L a.I i k)])) (w:=(.ret,[.i (interp (b.L.getD (k - 1) []) (b.L.getD k []) a.I)])) [D.l b.L,D.i a.I,D.i (k + 1:Nat)] h ?_ ?_ ?_
  ·intro k'
   simp only [freshFrom]
   by_cases hh:a.I ≤ ix (b.L.getD k []) 0
   ·simp only [hh,decide_true,Bool.not_true,Bool.false_eq_true,if_true,if_false]
   ·simp only [hh,decide_false,Bool.not_false,if_true,if_false]
  ·by_cases hlt:k < b.L.length
   ·have ka:=row_knot h1 (j:=k - 1) (by omega)
    have kb:=row_knot h1 (j:=k) hlt
    have kk:=kb.2.2.resolve_left (by omega)
    simp only [wrap_succ (show k < 9223372036854775807 by omega),wrap_pred (show k < 9223372036854775807 by omega),toNat_pred,ix_def,Nat.zero_add]
    rw [interp_wrap ka.2.1 kb.2.1 ka.1 kb.1 ⟨h2,h3⟩,wrap_id (x:=ix (b.L.getD k []) 0 - ix (b.L.getD (k - 1) []) 0) (by omega) (by omega)]
    have e1:((ix (b.L.getD k []) 0 - ix (b.L.getD (k - 1) []) 0 == 0) = false):=beq_eq_false_iff_ne.2 (by omega)
    grind
   ·grind
  ·intro hlt hp hh
   refine ⟨Eq.trans (need_yes (p:=_) (t:=_) ?_) hh,?_⟩
   ·simp only [I_i,L_l]
    exact ⟨h1,h2,h3,by omega,by omega⟩
   ·show ((b.L.length:Int) - ((k + 1:Nat):Int)).toNat < ((b.L.length:Int) - c.I).toNat
    omega
 ·cases h
theorem ok51 (n:Nat):FnOK C (n + 2) 51 (mkF s51 G51):=by
 refine fn_of hC (sp:=sp51) (lp:=lp51) trivial (by kernel_rfl) [4] (by kernel_rfl) (by kernel_rfl) (fun k hk L hL=>by simp at hk; subst hk; cases hL; exact ok51_4 n) fun ds r h=>?_
 unfold G51 at h
 split at h
 ·rename_i a d
  obtain ⟨hp,h⟩:=need_some h
  rw [yes_iff] at hp
  rw [← h]
  exact (congrArg T.run (t51 a d)).trans (fresh_run hp.1 hp.2.1 hp.2.2)
 ·cases h
theorem ok19 (n:Nat):FnOK C (n + 3) 19 (mkF s19 G19):=by
 refine fn_of hC (sp:=sp19) (lp:=lp19) ⟨ok51 n,trivial⟩ (by kernel_rfl) [] (by kernel_rfl) rfl (fun k hk=>by cases hk) fun ds r h=>?_
 unfold G19 at h
 split at h
 ·rename_i a b c d e f g h0
  obtain ⟨hp,h⟩:=need_some h
  rw [yes_iff] at hp
  obtain ⟨⟨hs1,hs2,hs3,hs4⟩,h5,h6,h7,h8,h9,h10⟩:=hp
  rw [← h]
  refine (congrArg T.run (t19 a b c d e f g h0)).trans ?_
  unfold gripC
  cases hg:g.B with
  | true=>
    rw [hg,rowFor_true] at hs4
    simp only [run_ite,if_true,rowFor_true]
    rw [run_need,if_pos (decide_eq_true ⟨hs1,hs3⟩)]
    refine (need_yes ⟨hs4,h5,h6⟩).trans ?_
    rw [run_need,if_pos rfl,← grip_wrap (freshV_range hs4) ⟨h7,h8⟩ ⟨h9,h10⟩]
    rfl
  | false=>
    rw [hg,rowFor_false] at hs4
    simp only [run_ite,Bool.false_eq_true,if_false,rowFor_false]
    rw [run_need,if_pos (decide_eq_true ⟨hs1,hs2⟩)]
    refine (need_yes ⟨hs4,h5,h6⟩).trans ?_
    rw [run_need,if_pos rfl,← grip_wrap (freshV_range hs4) ⟨h7,h8⟩ ⟨h9,h10⟩]
    rfl
 ·cases h
theorem rowAt_def {l:List (List D)} {j:Nat}:D.L (List.getD (List.getD l j []) 0 default) = rowAt l j:=rfl
theorem ok49_9 (n:Nat):LoopSim C (n + 1) 49 (loopOf C.P 49 9) (mkL l49_9 G49_9):=by
 refine loop_of hC (sp:=sp49) (lp:=lp49) ⟨ok50 n,trivial⟩ [] (by kernel_rfl) rfl (fun k hk=>by cases hk) (by kernel_rfl) (fun ds=>(((rowAt (ds.getD 0 default).L (ds.getD 2 default).I.toNat).length:Int) - (ds.getD 3 default).I).toNat) fun ds r h=>?_
 unfold G49_9 at h
 split at h
 ·rename_i a b c d
  obtain ⟨hp,h⟩:=need_some h
  rw [yes_iff] at hp
  obtain ⟨h1,h2,h3,h4,h5,h6⟩:=hp
  refine ⟨by rw [fuelC]; simp; omega,?_⟩
  rw [show roundT C (mkTab sp49 lp49) 49 (loopOf C.P 49 9) l49_9 [a,b,c,d] = _ from t49_9 a b c d]
  obtain ⟨k,hk⟩:∃ k:Nat,d.I = k:=⟨d.I.toNat,by omega⟩
  rw [run_need,if_pos (decide_eq_true ⟨h2,h3⟩)]
  have c1:decide (0 ≤ c.I ∧ c.I < (a.L.length:Int)) = true:=decide_eq_true ⟨h2,h3⟩
  simp only [run_ite,run_need,run_leaf,hk,Int.toNat_natCast,rowAt_def,c1,if_true] at h h5 h6 ⊢
  refine all_loop (p:=knotAt (rowAt a.L c.I.toNat)) (i:=k) (len:=(rowAt a.L c.I.toNat).length) [D.l a.L,D.i b.I,D.i c.I,D.i (k + 1:Nat)] h ?_ ?_
  ·simp only [knotAt,wrap_succ (show k < 9223372036854775807 by omega),wrap_pred (show k < 9223372036854775807 by omega),toNat_pred,ix_def,Nat.zero_add]
   grind
  ·intro hlt hp hh
   refine ⟨Eq.trans (need_yes (p:=_) (t:=_) ?_) hh,?_⟩
   ·simp only [I_i,L_l]
    exact ⟨h1,h2,h3,h4,by omega,by omega⟩
   ·show (((rowAt a.L c.I.toNat).length:Int) - ((k + 1:Nat):Int)).toNat < (((rowAt a.L c.I.toNat).length:Int) - d.I).toNat
    omega
 ·cases h
theorem ok49_4 (n:Nat):LoopSim C (n + 1) 49 (loopOf C.P 49 4) (mkL l49_4 G49_4):=by
 refine loop_of hC (sp:=sp49) (lp:=lp49) ⟨ok50 n,trivial⟩ [9] (by kernel_rfl) (by kernel_rfl) (fun k hk L hL=>by simp at hk; subst hk; cases hL; exact ok49_9 n) (by kernel_rfl) (fun ds=>(((ds.getD 0 default).L.length:Int) - (ds.getD 2 default).I).toNat) fun ds r h=>?_
 unfold G49_4 at h
 split at h
 ·rename_i a b c
  obtain ⟨hp,h⟩:=need_some h
  rw [yes_iff] at hp
  obtain ⟨h1,h2,h3,h4⟩:=hp
  have hb:big = 4611686018427387904:=rfl
  refine ⟨by rw [fuelC]; simp; omega,?_⟩
  rw [show roundT C (mkTab sp49 lp49) 49 (loopOf C.P 49 4) l49_4 [a,b,c] = _ from t49_4 a b c]
  obtain ⟨k,hk⟩:∃ k:Nat,c.I = k:=⟨c.I.toNat,by omega⟩
  simp only [run_ite,run_need,run_leaf,hk,h2,Int.toNat_natCast,rowAt_def,Int.toNat_zero,Nat.sub_zero] at h h3 h4 ⊢
  refine all_loop (p:=fun j=>rowOk (rowAt a.L j)) (i:=k) (len:=a.L.length) [D.l a.L,D.i a.L.length,D.i (k + 1:Nat)] h ?_ ?_
  ·simp only [rowOk,wrap_succ (show k < 9223372036854775807 by omega),yes_iff,within]
   grind
  ·intro hlt hp hh
   refine ⟨Eq.trans (need_yes (p:=_) (t:=_) ?_) hh,?_⟩
   ·simp only [I_i,L_l]
    exact ⟨h1,trivial,by omega,by omega⟩
   ·show ((a.L.length:Int) - ((k + 1:Nat):Int)).toNat < ((a.L.length:Int) - c.I).toNat
    omega
 ·cases h
theorem ok49 (n:Nat):FnOK C (n + 2) 49 (mkF s49 G49):=by
 refine fn_of hC (sp:=sp49) (lp:=lp49) ⟨ok50 n,trivial⟩ (by kernel_rfl) [4] (by kernel_rfl) (by kernel_rfl) (fun k hk L hL=>by simp at hk; subst hk; cases hL; exact ok49_4 n) fun ds r h=>?_
 unfold G49 at h
 split at h
 ·rename_i a b
  obtain ⟨hp,h⟩:=need_some h
  rw [yes_iff] at hp
  rw [← h]
  refine (congrArg T.run (t49 a b)).trans ?_
  simp only [run_ite,run_need,run_leaf,yes_iff,Int.toNat_zero,Nat.sub_zero,rowsOk]
  grind
 ·cases h
theorem ok18_5 (n:Nat):LoopSim C (n + 2) 18 (loopOf C.P 18 5) (mkL l18_5 G18_5):=by
 refine loop_of hC (sp:=sp18) (lp:=lp18) ⟨ok49 n,ok50 (n + 1),trivial⟩ [] (by kernel_rfl) rfl (fun k hk=>by cases hk) (by kernel_rfl) (fun ds=>((ds.getD 0 default).I - (ds.getD 1 default).I).toNat) fun ds r h=>?_
 unfold G18_5 at h
 split at h
 ·rename_i m i a b c d
  obtain ⟨hp,h⟩:=need_some h
  rw [yes_iff] at hp
  obtain ⟨h1,h2,h3,h4⟩:=hp
  have hb:big = 4611686018427387904:=rfl
  refine ⟨by rw [fuelC]; simp; omega,?_⟩
  rw [show roundT C (mkTab sp18 lp18) 18 (loopOf C.P 18 5) l18_5 [m,i,a,b,c,d] = _ from t18_5 m i a b c d]
  obtain ⟨k,hk⟩:∃ k:Nat,i.I = k:=⟨i.I.toNat,by omega⟩
  simp only [run_ite,run_need,run_leaf,hk,h2,Int.toNat_natCast] at h h3 h4 ⊢
  refine all_loop (p:=fun j=>within (ix (c.L.getD j []) 0) 0 1000) (i:=k) (len:=c.L.length) [D.i c.L.length,D.i (k + 1:Nat),D.l a.L,D.l b.L,D.l c.L,D.i d.I] h ?_ ?_
  ·simp only [wrap_succ (show k < 9223372036854775807 by omega),ix_def]
   grind
  ·intro hlt hp hh
   refine ⟨Eq.trans (need_yes (p:=_) (t:=_) ?_) hh,?_⟩
   ·simp only [I_i,L_l]
    exact ⟨h1,trivial,by omega,by omega⟩
   ·show ((c.L.length:Int) - ((k + 1:Nat):Int)).toNat < (m.I - i.I).toNat
    omega
 ·cases h
theorem ok18 (n:Nat):FnOK C (n + 3) 18 (mkF s18 G18):=by
 refine fn_of hC (sp:=sp18) (lp:=lp18) ⟨ok49 n,ok50 (n + 1),trivial⟩ (by kernel_rfl) [5] (by kernel_rfl) (by kernel_rfl) (fun k hk L hL=>by simp at hk; subst hk; cases hL; exact ok18_5 n) fun ds r h=>?_
 unfold G18 at h
 split at h
 ·rename_i a b c d
  obtain ⟨hp,h⟩:=need_some h
  rw [yes_iff] at hp
  obtain ⟨h1,h2,h3⟩:=hp
  rw [← h]
  refine (congrArg T.run (t18 a b c d)).trans ?_
  simp only [run_ite,run_need,run_leaf,compoundOk,wearOk,yes_true h1,yes_true h2,yes_iff,if_true,Int.toNat_zero,Nat.sub_zero,within]
  have e1:((b.L.length:Int) = a.L.length) ↔ b.L.length = a.L.length:=Int.ofNat_inj
  have e2:((c.L.length:Int) = a.L.length) ↔ c.L.length = a.L.length:=Int.ofNat_inj
  grind
 ·cases h
theorem ok15_4 (n:Nat):LoopSim C n 15 (loopOf C.P 15 4) (mkL l15_4 G15_4):=by
 refine loop_of hC (sp:=sp15) (lp:=lp15) trivial [] (by kernel_rfl) rfl (fun k hk=>by cases hk) (by kernel_rfl) (fun ds=>(((ds.getD 1 default).L.length:Int) - (ds.getD 0 default).I).toNat) fun ds r h=>?_
 unfold G15_4 at h
 split at h
 ·rename_i i a b c d
  obtain ⟨hp,h⟩:=need_some h
  rw [yes_iff] at hp
  obtain ⟨h1,h2,h3⟩:=hp
  refine ⟨by rw [fuelC]; simp; omega,?_⟩
  rw [show roundT C (mkTab sp15 lp15) 15 (loopOf C.P 15 4) l15_4 [i,a,b,c,d] = _ from t15_4 i a b c d]
  obtain ⟨k,hk⟩:∃ k:Nat,i.I = k:=⟨i.I.toNat,by omega⟩
  simp only [run_ite,run_need,run_leaf,hk,Int.toNat_natCast,rowAt_def] at h h2 h3 ⊢
  refine all_loop (p:=fun j=>decide ((rowAt a.L j).length ≤ 12)) (i:=k) (len:=a.L.length) [D.i (k + 1:Nat),D.l a.L,D.l b.L,D.l c.L,D.i d.I] h ?_ ?_
  ·simp only [wrap_succ (show k < 9223372036854775807 by omega)]
   grind
  ·intro hlt hp hh
   refine ⟨Eq.trans (need_yes (p:=_) (t:=_) ?_) hh,?_⟩
   ·simp only [I_i,L_l]
    exact ⟨h1,by omega,by omega⟩
   ·show ((a.L.length:Int) - ((k + 1:Nat):Int)).toNat < ((a.L.length:Int) - i.I).toNat
    omega
 ·cases h
theorem ok15_9 (n:Nat):LoopSim C n 15 (loopOf C.P 15 9) (mkL l15_9 G15_9):=by
 refine loop_of hC (sp:=sp15) (lp:=lp15) trivial [] (by kernel_rfl) rfl (fun k hk=>by cases hk) (by kernel_rfl) (fun ds=>(((ds.getD 2 default).L.length:Int) - (ds.getD 0 default).I).toNat) fun ds r h=>?_
 unfold G15_9 at h
 split at h
 ·rename_i i a b c d
  obtain ⟨hp,h⟩:=need_some h
  rw [yes_iff] at hp
  obtain ⟨h1,h2,h3⟩:=hp
  refine ⟨by rw [fuelC]; simp; omega,?_⟩
  rw [show roundT C (mkTab sp15 lp15) 15 (loopOf C.P 15 9) l15_9 [i,a,b,c,d] = _ from t15_9 i a b c d]
  obtain ⟨k,hk⟩:∃ k:Nat,i.I = k:=⟨i.I.toNat,by omega⟩
  simp only [run_ite,run_need,run_leaf,hk,Int.toNat_natCast,rowAt_def] at h h2 h3 ⊢
  refine all_loop (p:=fun j=>decide ((rowAt b.L j).length ≤ 12)) (i:=k) (len:=b.L.length) [D.i (k + 1:Nat),D.l a.L,D.l b.L,D.l c.L,D.i d.I] h ?_ ?_
  ·simp only [wrap_succ (show k < 9223372036854775807 by omega)]
   grind
  ·intro hlt hp hh
   refine ⟨Eq.trans (need_yes (p:=_) (t:=_) ?_) hh,?_⟩
   ·simp only [I_i,L_l]
    exact ⟨h1,by omega,by omega⟩
   ·show ((b.L.length:Int) - ((k + 1:Nat):Int)).toNat < ((b.L.length:Int) - i.I).toNat
    omega
 ·cases h
theorem ok15 (n:Nat):FnOK C (n + 1) 15 (mkF s15 G15):=by
 refine fn_of hC (sp:=sp15) (lp:=lp15) trivial (by kernel_rfl) [4,9] (by kernel_rfl) (by kernel_rfl) (fun k hk L hL=>by
  simp at hk; rcases hk with rfl | rfl
  ·cases hL; exact ok15_4 n
  ·cases hL; exact ok15_9 n) fun ds r h=>?_
 unfold G15 at h
 split at h
 ·rename_i a b c d
  rw [← h]
  refine (congrArg T.run (t15 a b c d)).trans ?_
  simp only [run_ite,run_need,run_leaf,yes_iff,Int.toNat_zero,Nat.sub_zero,shortOk]
  grind
 ·cases h
theorem ok37_2 (n:Nat):LoopSim C (n + 1) 37 (loopOf C.P 37 2) (mkL l37_2 G37_2):=by
 refine loop_of hC (sp:=sp37) (lp:=lp37) ⟨ok50 n,trivial⟩ [] (by kernel_rfl) rfl (fun k hk=>by cases hk) (by kernel_rfl) (fun ds=>(((ds.getD 0 default).L.length:Int) - (ds.getD 2 default).I).toNat) fun ds r h=>?_
 unfold G37_2 at h
 split at h
 ·rename_i l s i
  obtain ⟨hp,h⟩:=need_some h
  rw [yes_iff] at hp
  obtain ⟨⟨h1,h1b⟩,h2,h3,h4⟩:=hp
  have hb:lim = 9223372036854775808:=rfl
  refine ⟨by rw [fuelC]; simp; omega,?_⟩
  rw [show roundT C (mkTab sp37 lp37) 37 (loopOf C.P 37 2) l37_2 [l,s,i] = _ from t37_2 l s i]
  obtain ⟨k,hk⟩:∃ k:Nat,i.I = k:=⟨i.I.toNat,by omega⟩
  simp only [run_ite,run_need,run_leaf,hk,Int.toNat_natCast] at h h4 ⊢
  have hlim:lim = 9223372036854775808:=rfl
  refine all_loop (p:=stretchAt l.L s.I) (i:=k) (len:=l.L.length) [D.l l.L,D.i s.I,D.i (k + 1:Nat)] h ?_ ?_
  ·by_cases hlt:k < l.L.length
   ·simp only [wrap_succ (show k < 9223372036854775807 by omega),wrap_id (x:=s.I - 1) (by omega) (by omega),ix_def,Nat.zero_add,stretchAt,stretchP]
    grind
   ·have hlt':¬ ((k:Int) < (l.L.length:Int)):=by omega
    simp only [hlt,hlt',decide_false,Bool.false_eq_true,if_false]
  ·intro hlt hp hh
   refine ⟨Eq.trans (need_yes (p:=_) (t:=_) ?_) hh,?_⟩
   ·simp only [I_i,L_l]
    exact ⟨⟨h1,h1b⟩,h2,by omega,by omega⟩
   ·show ((l.L.length:Int) - ((k + 1:Nat):Int)).toNat < ((l.L.length:Int) - i.I).toNat
    omega
 ·cases h
theorem ok37 (n:Nat):FnOK C (n + 2) 37 (mkF s37 G37):=by
 refine fn_of hC (sp:=sp37) (lp:=lp37) ⟨ok50 n,trivial⟩ (by kernel_rfl) [2] (by kernel_rfl) (by kernel_rfl) (fun k hk L hL=>by simp at hk; subst hk; cases hL; exact ok37_2 n) fun ds r h=>?_
 unfold G37 at h
 split at h
 ·rename_i l s
  obtain ⟨hp,h⟩:=need_some h
  rw [yes_iff] at hp
  rw [← h]
  refine (congrArg T.run (t37 l s)).trans ?_
  rw [need_yes ⟨hp.1,hp.2,by omega,by omega⟩]
  simp only [run_ite,run_leaf,Int.toNat_zero,Nat.sub_zero,loopOk]
  by_cases hl:l.L.length ≤ 30
  ·have hl':(l.L.length:Int) ≤ 30:=by omega
   simp [hl,hl']
   split <;> rename_i hc <;> simp [hc]
  ·have hl':¬ (l.L.length:Int) ≤ 30:=by omega
   simp [hl,hl']
 ·cases h
theorem drive_flag {dry wet wl:List (List D)} {loss:Int} {l:List (List D)}:∀ (k i:Nat) (w s:Int) (b b':Bool),(driveFrom dry wet wl loss l i k w s b).1 = (driveFrom dry wet wl loss l i k w s b').1 ∧ (driveFrom dry wet wl loss l i k w s b).2.1 = (driveFrom dry wet wl loss l i k w s b').2.1
 | 0,i,w,s,b,b'=>⟨rfl,rfl⟩
 | k + 1,i,w,s,b,b'=>by
   simp only [driveFrom]
   exact drive_flag k _ _ _ _ _
theorem ok38_3 (n:Nat):LoopSim C (n + 3) 38 (loopOf C.P 38 3) (mkL l38_3 G38_3):=by
 refine loop_of hC (sp:=sp38) (lp:=lp38) ⟨ok19 n,trivial⟩ [] (by kernel_rfl) rfl (fun k hk=>by cases hk) (by kernel_rfl) (fun ds=>(((ds.getD 0 default).L.length:Int) - (ds.getD 3 default).I).toNat) fun ds r h=>?_
 unfold G38_3 at h
 split at h
 ·rename_i l w s i a b c d
  obtain ⟨hp,h⟩:=need_some h
  rw [yes_iff] at hp
  obtain ⟨h1,h2,h3,h5,h6,h7,h8⟩:=hp
  have hb:big = 4611686018427387904:=rfl
  have hlen:=(stretch_of h1.2).1
  refine ⟨by rw [fuelC]; simp; omega,?_⟩
  rw [show roundT C (mkTab sp38 lp38) 38 (loopOf C.P 38 3) l38_3 [l,w,s,i,a,b,c,d] = _ from t38_3 l w s i a b c d]
  obtain ⟨k,hk⟩:∃ k:Nat,i.I = k:=⟨i.I.toNat,by omega⟩
  simp only [run_ite,run_need,run_leaf,hk,Int.toNat_natCast] at h h6 h8 ⊢
  by_cases hlt:k < l.L.length
  ·obtain ⟨p1,p2,p3,p4,p5,p6,p7,p8,p9⟩:=step_of h1 (w:=w.I) ⟨h2,h3⟩ hlt
   have d0:decide ((k:Int) < (l.L.length:Int)) = true:=decide_eq_true (by omega)
   have d1:decide ((0:Int) ≤ (k:Int) ∧ (k:Int) < (l.L.length:Int)) = true:=decide_eq_true ⟨by omega,by omega⟩
   have d2:=yes_true (p:=surfOk a.L b.L (ix (l.L.getD k []) 0) (bx (l.L.getD k []) 3) ∧ -40 ≤ ix (l.L.getD k []) 2 ∧ ix (l.L.getD k []) 2 ≤ 80 ∧ 0 ≤ d.I ∧ d.I ≤ 1000 ∧ 0 ≤ w.I ∧ w.I ≤ 1000000) ⟨p1,p2.1,p2.2,p3.1,p3.2,h2,h3⟩
   have d3:(0 ≤ ix (l.L.getD k []) 0 ∧ ix (l.L.getD k []) 0 < (c.L.length:Int)) = True:=eq_true p4
   have e8:stepLoss a.L b.L d.I w.I (l.L.getD k []) = (ix (l.L.getD k []) 1 * (1000 - gripC a.L b.L d.I (ix (l.L.getD k []) 0) (ix (l.L.getD k []) 2) (bx (l.L.getD k []) 3) w.I)).tdiv 1000:=rfl
   have e9:stepWear c.L w.I (l.L.getD k []) = w.I + ix (l.L.getD k []) 1 * ix (c.L.getD (ix (l.L.getD k []) 0).toNat []) 0:=rfl
   have w0:IntKind.i64.wrap (1000 - gripC a.L b.L d.I (ix (l.L.getD k []) 0) (ix (l.L.getD k []) 2) (bx (l.L.getD k []) 3) w.I) = 1000 - gripC a.L b.L d.I (ix (l.L.getD k []) 0) (ix (l.L.getD k []) 2) (bx (l.L.getD k []) 3) w.I:=wrap_id (by omega) (by omega)
   have w1:IntKind.i64.wrap (ix (l.L.getD k []) 1 * (1000 - gripC a.L b.L d.I (ix (l.L.getD k []) 0) (ix (l.L.getD k []) 2) (bx (l.L.getD k []) 3) w.I)) = ix (l.L.getD k []) 1 * (1000 - gripC a.L b.L d.I (ix (l.L.getD k []) 0) (ix (l.L.getD k []) 2) (bx (l.L.getD k []) 3) w.I):=wrap_abs (mul_abs (A:=100000) (B:=1000) (by omega) (by omega)) (by decide)
   have w2:IntKind.i64.wrap (stepLoss a.L b.L d.I w.I (l.L.getD k [])) = stepLoss a.L b.L d.I w.I (l.L.getD k []):=wrap_id (by omega) (by omega)
   have w3:IntKind.i64.wrap (s.I + stepLoss a.L b.L d.I w.I (l.L.getD k [])) = s.I + stepLoss a.L b.L d.I w.I (l.L.getD k []):=wrap_id (by omega) (by omega)
   have w4:IntKind.i64.wrap (ix (l.L.getD k []) 1 * ix (c.L.getD (ix (l.L.getD k []) 0).toNat []) 0) = ix (l.L.getD k []) 1 * ix (c.L.getD (ix (l.L.getD k []) 0).toNat []) 0:=wrap_id (by omega) (by omega)
   have w5:IntKind.i64.wrap (w.I + ix (l.L.getD k []) 1 * ix (c.L.getD (ix (l.L.getD k []) 0).toNat []) 0) = stepWear c.L w.I (l.L.getD k []):=wrap_id (by omega) (by omega)
   have e10:0 ≤ stepWear c.L w.I (l.L.getD k []):=by omega
   rw [show l.L.length - k = (l.L.length - (k + 1)) + 1 by omega] at h
   simp only [driveFrom] at h
   simp only [d0,d1,if_true,ix_def,bx_def,Nat.zero_add,show (0 + 1 + 1:Nat) = 2 from rfl,show (0 + 1 + 1 + 1:Nat) = 3 from rfl,wrap_succ (show k < 9223372036854775807 by omega)]
   simp only [d2,d3,decide_true,if_true,w0,w1,← e8,w2,w3,w4,w5]
   by_cases hc:stepWear c.L w.I (l.L.getD k []) > 1000000
   ·simp only [hc,if_true] at h
    simp only [show ¬ stepWear c.L w.I (l.L.getD k []) < 1000000 by omega,if_false]
    refine again_ok rfl ?_ ?_
    ·refine (need_yes ⟨h1,by simp only [I_i]; omega,by simp only [I_i]; omega,by simp only [I_i]; omega,by simp only [I_i,L_l]; omega,by simp only [I_i]; omega,by simp only [I_i]; omega⟩).trans ?_
     simp only [I_i,L_l,Int.toNat_natCast,run_leaf]
     rw [(drive_flag _ _ _ _ false true).1,(drive_flag _ _ _ _ false true).2] at h; exact h
    ·show ((l.L.length:Int) - ((k + 1:Nat):Int)).toNat < ((l.L.length:Int) - i.I).toNat
     omega
   ·simp only [hc,if_false] at h
    have he:(if stepWear c.L w.I (l.L.getD k []) < 1000000 then stepWear c.L w.I (l.L.getD k []) else 1000000) = stepWear c.L w.I (l.L.getD k []):=by split <;> omega
    rw [he]
    refine again_ok rfl ?_ ?_
    ·refine (need_yes ⟨h1,by simp only [I_i]; omega,by simp only [I_i]; omega,by simp only [I_i]; omega,by simp only [I_i,L_l]; omega,by simp only [I_i]; omega,by simp only [I_i]; omega⟩).trans ?_
     simp only [I_i,L_l,Int.toNat_natCast,run_leaf]
     exact h
    ·show ((l.L.length:Int) - ((k + 1:Nat):Int)).toNat < ((l.L.length:Int) - i.I).toNat
     omega
  ·rw [show l.L.length - k = 0 by omega] at h
   simp only [driveFrom,Option.some.injEq] at h
   subst h
   rw [if_neg (by simpa using hlt)]
   exact out_ok rfl
 ·cases h
theorem ok38 (n:Nat):FnOK C (n + 4) 38 (mkF s38 G38):=by
 refine fn_of hC (sp:=sp38) (lp:=lp38) ⟨ok19 n,trivial⟩ (by kernel_rfl) [3] (by kernel_rfl) (by kernel_rfl) (fun k hk L hL=>by simp at hk; subst hk; cases hL; exact ok38_3 n) fun ds r h=>?_
 unfold G38 at h
 split at h
 ·rename_i a b c d l w
  obtain ⟨hp,h⟩:=need_some h
  rw [yes_iff] at hp
  rw [← h]
  refine (congrArg T.run (t38 a b c d l w)).trans ?_
  exact need_yes ⟨hp.1,hp.2.1,hp.2.2,by omega,by omega,by omega,by omega⟩
 ·cases h
theorem ok39_3 (n:Nat):LoopSim C n 39 (loopOf C.P 39 3) (mkL l39_3 G39_3):=by
 refine loop_of hC (sp:=sp39) (lp:=lp39) trivial [] (by kernel_rfl) rfl (fun k hk=>by cases hk) (by kernel_rfl) (fun ds=>(((ds.getD 0 default).L.length:Int) - (ds.getD 2 default).I).toNat) fun ds r h=>?_
 unfold G39_3 at h
 split at h
 ·rename_i l s i a b c d
  obtain ⟨hp,h⟩:=need_some h
  rw [yes_iff] at hp
  obtain ⟨h1,h5,h6,h7,h8⟩:=hp
  have hb:big = 4611686018427387904:=rfl
  have hlen:=(stretch_of h1.2).1
  refine ⟨by rw [fuelC]; simp; omega,?_⟩
  rw [show roundT C (mkTab sp39 lp39) 39 (loopOf C.P 39 3) l39_3 [l,s,i,a,b,c,d] = _ from t39_3 l s i a b c d]
  obtain ⟨k,hk⟩:∃ k:Nat,i.I = k:=⟨i.I.toNat,by omega⟩
  simp only [run_ite,run_need,run_leaf,hk,Int.toNat_natCast] at h h6 h8 ⊢
  by_cases hlt:k < l.L.length
  ·obtain ⟨p1,p2,p3,p4,p5,p6,p7,p8,p9⟩:=step_of h1 (w:=0) ⟨by omega,by omega⟩ hlt
   have d0:decide ((k:Int) < (l.L.length:Int)) = true:=decide_eq_true (by omega)
   have d1:decide ((0:Int) ≤ (k:Int) ∧ (k:Int) < (l.L.length:Int)) = true:=decide_eq_true ⟨by omega,by omega⟩
   have d3:(0 ≤ ix (l.L.getD k []) 0 ∧ ix (l.L.getD k []) 0 < (c.L.length:Int)) = True:=eq_true p4
   rw [show l.L.length - k = (l.L.length - (k + 1)) + 1 by omega] at h
   simp only [useFrom,← Int.add_assoc] at h
   simp only [d0,d1,d3,decide_true,if_true,ix_def,Nat.zero_add,wrap_succ (show k < 9223372036854775807 by omega)]
   rw [wrap_id (x:=ix (l.L.getD k []) 1 * ix (c.L.getD (ix (l.L.getD k []) 0).toNat []) 0) (by omega) (by omega),wrap_id (x:=s.I + ix (l.L.getD k []) 1 * ix (c.L.getD (ix (l.L.getD k []) 0).toNat []) 0) (by omega) (by omega)]
   refine again_ok rfl ?_ ?_
   ·refine (need_yes ⟨h1,by simp only [I_i]; omega,by simp only [I_i,L_l]; omega,by simp only [I_i]; omega,by simp only [I_i]; omega⟩).trans ?_
    simp only [I_i,L_l,Int.toNat_natCast,run_leaf]
    exact h
   ·show ((l.L.length:Int) - ((k + 1:Nat):Int)).toNat < ((l.L.length:Int) - i.I).toNat
    omega
  ·rw [show l.L.length - k = 0 by omega] at h
   simp only [useFrom,Int.add_zero,Option.some.injEq] at h
   subst h
   rw [if_neg (by simpa using hlt)]
   exact out_ok rfl
 ·cases h
theorem ok39 (n:Nat):FnOK C (n + 1) 39 (mkF s39 G39):=by
 refine fn_of hC (sp:=sp39) (lp:=lp39) trivial (by kernel_rfl) [3] (by kernel_rfl) (by kernel_rfl) (fun k hk L hL=>by simp at hk; subst hk; cases hL; exact ok39_3 n) fun ds r h=>?_
 unfold G39 at h
 split at h
 ·rename_i a b c d l
  obtain ⟨hp,h⟩:=need_some h
  rw [yes_iff] at hp
  rw [← h]
  refine (congrArg T.run (t39 a b c d l)).trans ?_
  refine (need_yes ⟨hp,by omega,by omega,by omega,by omega⟩).trans ?_
  simp only [run_leaf,Int.toNat_zero,Nat.sub_zero,Int.zero_add]
 ·cases h
section
variable (dry wet wl:List (List D)) (loss:Int)
def driveL:List (List D) → Int → Int → Bool → Int × Int × Bool
 | [],w,s,b=>(w,s,b)
 | c :: cs,w,s,b=>driveL cs (if stepWear wl w c > 1000000 then 1000000 else stepWear wl w c) (s + stepLoss dry wet loss w c) (if stepWear wl w c > 1000000 then false else b)
variable {dry wet wl loss}
theorem driveFrom_L (l:List (List D)):∀ (k i:Nat) (w s:Int) (b:Bool),i + k = l.length → driveFrom dry wet wl loss l i k w s b = driveL dry wet wl loss (l.drop i) w s b
 | 0, i,w,s,b,h=>by
   rw [List.drop_eq_nil_of_le (by omega)]
   simp only [driveFrom,driveL]
 | k + 1,i,w,s,b,h=>by
   have hi:i < l.length:=by omega
   rw [List.drop_eq_getElem_cons hi]
   have e:l.getD i [] = l[i]:=by simp [List.getD_eq_getElem?_getD,hi]
   simp only [driveFrom,driveL,e]
   exact driveFrom_L l k (i + 1) _ _ _ (by omega)
theorem drive_L (l:List (List D)) (w:Int):drive dry wet wl loss l w = driveL dry wet wl loss l w 0 true:=by
 unfold drive
 rw [driveFrom_L l l.length 0 w 0 true (by omega),List.drop_zero]
def Fine (dry wet wl:List (List D)) (loss:Int) (c:List D):Prop:=∀ w w',0 ≤ w → w ≤ w' → w' ≤ 1000000 → stepLoss dry wet loss w c ≤ stepLoss dry wet loss w' c ∧ 0 ≤ stepWear wl w c - w ∧ stepWear wl w' c - w' = stepWear wl w c - w
theorem driveL_range:∀ (a:List (List D)) (w s:Int) (o:Bool),(∀ c ∈ a,Fine dry wet wl loss c) → 0 ≤ w → w ≤ 1000000 → 0 ≤ (driveL dry wet wl loss a w s o).1 ∧ (driveL dry wet wl loss a w s o).1 ≤ 1000000
 | [],w,s,o,_,h0,h1=>⟨h0,h1⟩
 | c :: a,w,s,o,hf,h0,h1=>by
   obtain ⟨f1,f2,f3⟩:=hf c (by simp) w w h0 (Int.le_refl _) h1
   simp only [driveL]
   exact driveL_range a _ _ _ (fun x hx=>hf x (by simp [hx])) (by split <;> omega) (by split <;> omega)
theorem driveL_bound:∀ (a:List (List D)) (w s:Int) (o:Bool),(∀ c ∈ a,Fine dry wet wl loss c) → (∀ c ∈ a,∀ w,0 ≤ w → w ≤ 1000000 → 0 ≤ stepLoss dry wet loss w c ∧ stepLoss dry wet loss w c ≤ 100000) → 0 ≤ w → w ≤ 1000000 →
    s ≤ (driveL dry wet wl loss a w s o).2.1 ∧ (driveL dry wet wl loss a w s o).2.1 ≤ s + 100000 * a.length
 | [],w,s,o,_,_,h0,h1=>by simp [driveL]
 | c :: a,w,s,o,hf,hb,h0,h1=>by
   obtain ⟨f1,f2,f3⟩:=hf c (by simp) w w h0 (Int.le_refl _) h1
   have h2:=hb c (by simp) w h0 h1
   have h3:=driveL_bound a (if stepWear wl w c > 1000000 then 1000000 else stepWear wl w c) (s + stepLoss dry wet loss w c) (if stepWear wl w c > 1000000 then false else o) (fun x hx=>hf x (by simp [hx])) (fun x hx=>hb x (by simp [hx])) (by split <;> omega) (by split <;> omega)
   simp only [driveL,List.length_cons]
   omega
end
theorem gripV_ant {g d h h':Int} (hg:0 ≤ g) (hd:0 ≤ d) (hh:0 ≤ h) (hi:h ≤ h'):gripV g d h' ≤ gripV g d h:=by
 unfold gripV
 have h0:0 ≤ g * d:=Int.mul_nonneg hg hd
 have h1:0 ≤ g * d * h:=Int.mul_nonneg h0 hh
 have h2:g * d * h ≤ g * d * h':=Int.mul_le_mul_of_nonneg_left hi h0
 rw [Int.tdiv_eq_ediv_of_nonneg h1,Int.tdiv_eq_ediv_of_nonneg (by omega)]
 omega
theorem fine_of {dry wet wl:List (List D)} {loss:Int} {l:List (List D)} (hp:drivePre dry wet wl loss l):∀ c ∈ l,Fine dry wet wl loss c ∧ ∀ w,0 ≤ w → w ≤ 1000000 → 0 ≤ stepLoss dry wet loss w c ∧ stepLoss dry wet loss w c ≤ 100000:=by
 intro c hc
 obtain ⟨j,hj,rfl⟩:=List.getElem_of_mem hc
 have e:l[j] = l.getD j []:=by simp [List.getD_eq_getElem?_getD,hj]
 rw [e]
 refine ⟨fun w w' h0 h1 h2=>?_,fun w h0 h1=>(step_of hp ⟨h0,h1⟩ hj).2.2.2.2.2.2.2.1⟩
 obtain ⟨p1,p2,p3,p4,p5,p6,p7,p8,p9⟩:=step_of hp (w:=w) ⟨h0,by omega⟩ hj
 have q7:=(step_of hp (w:=w') ⟨by omega,h2⟩ hj).2.2.2.2.2.2.1
 refine ⟨?_,?_,?_⟩
 ·unfold stepLoss
  have ha:gripC dry wet loss (ix (l.getD j []) 0) (ix (l.getD j []) 2) (bx (l.getD j []) 3) w' ≤ gripC dry wet loss (ix (l.getD j []) 0) (ix (l.getD j []) 2) (bx (l.getD j []) 3) w:=gripV_ant (freshV_range p1.2.2.2).1 p3.1 h0 h1
  generalize gripC dry wet loss (ix (l.getD j []) 0) (ix (l.getD j []) 2) (bx (l.getD j []) 3) w' = g' at *
  generalize gripC dry wet loss (ix (l.getD j []) 0) (ix (l.getD j []) 2) (bx (l.getD j []) 3) w = g at *
  have m1:0 ≤ ix (l.getD j []) 1 * (1000 - g):=Int.mul_nonneg p5.1 (by omega)
  have m2:ix (l.getD j []) 1 * (1000 - g) ≤ ix (l.getD j []) 1 * (1000 - g'):=Int.mul_le_mul_of_nonneg_left (by omega) p5.1
  rw [Int.tdiv_eq_ediv_of_nonneg m1,Int.tdiv_eq_ediv_of_nonneg (by omega)]
  omega
 ·unfold stepWear; omega
 ·unfold stepWear; omega
section
variable {t r s:Int} {l:List (List D)} (h:tankP t r s l)
include h
end
set_option maxRecDepth 100000 in
theorem bytes3:(Try.prog.types[3].bytes:Int) = 8:=by kernel_rfl
theorem ints_mkI (A:List Int):ints (mkI A) = A:=by
 unfold ints mkI
 rw [List.map_map]
 exact (List.map_congr_left fun a _=>rfl).trans (List.map_id _)
theorem len_mkI (A:List Int):(mkI A).length = A.length:=by simp [mkI]
theorem ix_mkI (A:List Int) (j:Nat):ix ((mkI A).getD j []) 0 = A.getD j 0:=by
 unfold mkI
 simp only [List.getD_eq_getElem?_getD,List.getElem?_map]
 cases A[j]? <;> rfl
theorem set_mkI (A:List Int) (k:Nat) (v:Int):(mkI A).set k [.i v] = mkI (A.set k v):=by
 unfold mkI; rw [List.map_set]
theorem zero_mkI (n:Nat):List.replicate n [D.i 0] = mkI (List.replicate n 0):=by simp [mkI]
def cum (A:List Int):Nat → Int
 | 0=>A.getD 0 0
 | j + 1=>cum A j + A.getD (j + 1) 0
def capAt (l:List (List D)) (t s:Int):Nat → Int
 | 0=>t - s
 | j + 1=>capAt l t s j + leastOf l j
theorem getD_set {A:List Int} {k:Nat} {v:Int} (hk:k < A.length) (j:Nat):(A.set k v).getD j 0 = if j = k then v else A.getD j 0:=by
 simp only [List.getD_eq_getElem?_getD,List.getElem?_set]
 by_cases h:k = j
 ·subst h; simp [hk]
 ·rw [if_neg h,if_neg (fun e=>h e.symm)]
structure Inv (l:List (List D)) (t r s:Int) (i:Nat) (A:List Int):Prop where
 am:amts l A
 zero:∀ j,i < j → A.getD j 0 = 0
 cap:∀ j,j < l.length → cum A j ≤ capAt l t s j
 sum:∀ j,j < l.length → cum A j ≤ sumAt l r s j
noncomputable def sp20:SpL:=[(15,mkF s15 G15)]
noncomputable def lp20:LpL:=[(4,mkL l20_4 G20_4),(9,mkL l20_9 G20_9)]
noncomputable def tab20:Tab:=mkTab sp20 lp20
noncomputable def sp81:SpL:=[(46,mkF s46 G46)]
noncomputable def lp81:LpL:=[]
noncomputable def tab81:Tab:=mkTab sp81 lp81
noncomputable def sp100:SpL:=[(81,mkF s81 G81)]
noncomputable def lp100:LpL:=[(2,mkL l100_2 G100_2)]
noncomputable def tab100:Tab:=mkTab sp100 lp100
noncomputable def sp80:SpL:=[(100,mkF s100 G100),(81,mkF s81 G81)]
noncomputable def lp80:LpL:=[]
noncomputable def tab80:Tab:=mkTab sp80 lp80
noncomputable def sp83:SpL:=[(69,mkF s69 G69)]
noncomputable def lp83:LpL:=[]
noncomputable def tab83:Tab:=mkTab sp83 lp83
noncomputable def sp101:SpL:=[(83,mkF s83 G83)]
noncomputable def lp101:LpL:=[(2,mkL l101_2 G101_2)]
noncomputable def tab101:Tab:=mkTab sp101 lp101
noncomputable def sp82:SpL:=[(101,mkF s101 G101),(83,mkF s83 G83)]
noncomputable def lp82:LpL:=[]
noncomputable def tab82:Tab:=mkTab sp82 lp82
noncomputable def sp52:SpL:=[(47,mkF s47 G47),(80,mkF s80 G80),(82,mkF s82 G82),(81,mkF s81 G81),(83,mkF s83 G83)]
noncomputable def lp52:LpL:=[]
noncomputable def tab52:Tab:=mkTab sp52 lp52
noncomputable def sp54:SpL:=[(70,mkF s70 G70)]
noncomputable def lp54:LpL:=[(3,mkL l54_3 G54_3)]
noncomputable def tab54:Tab:=mkTab sp54 lp54
noncomputable def sp22:SpL:=[(50,mkF s50 G50),(18,mkF s18 G18),(37,mkF s37 G37)]
noncomputable def lp22:LpL:=[(4,mkL l22_4 G22_4),(9,mkL l22_9 G22_9)]
noncomputable def tab22:Tab:=mkTab sp22 lp22
noncomputable def sp41:SpL:=[(50,mkF s50 G50),(39,mkF s39 G39),(38,mkF s38 G38)]
noncomputable def lp41:LpL:=[(4,mkL l41_4 G41_4),(11,mkL l41_11 G41_11)]
noncomputable def tab41:Tab:=mkTab sp41 lp41
set_option linter.unusedVariables false
set_option maxRecDepth 100000
theorem t20 (a b:D):fnT C tab20 20 s20 [a,b] =
 T.ite (decide ((a.L.length:Int) > (10:Int))) (T.leaf [D.b false]) (T.ite (decide ((b.L.length:Int) > (10:Int))) (T.leaf [D.b false]) (T.need (yes (a.L.length ≤ 10 ∧ (0:Int) ≤ (0:Int) ∧ (0:Int) ≤ (a.L.length:Int))) (T.ite (allFrom (fewC a.L) (Int.toNat (0:Int)) (a.L.length - Int.toNat (0:Int))) (T.need (yes (b.L.length ≤ 10 ∧ (0:Int) ≤ (0:Int) ∧ (0:Int) ≤ (b.L.length:Int))) (T.ite (allFrom (fewL b.L) (Int.toNat (0:Int)) (b.L.length - Int.toNat (0:Int))) (T.leaf [D.b true]) (T.leaf [D.b false]))) (T.leaf [D.b false])))):=by kernel_rfl
theorem t20_4 (a b c:D):roundT C tab20 20 (loopOf C.P 20 4) l20_4 [a,b,c] =
 T.ite (decide (c.I < (a.L.length:Int))) (T.need (decide ((0:Int) ≤ c.I ∧ c.I < (a.L.length:Int))) (T.ite (!shortOk (D.L (List.getD (List.getD a.L c.I.toNat []) 0 default)) (D.L (List.getD (List.getD a.L c.I.toNat []) (0 + 1) default)) (D.L (List.getD (List.getD a.L c.I.toNat []) (0 + 1 + 1) default))) (T.leaf (Rd.out Ex.ret [D.b false])) (T.leaf (Rd.again [D.l a.L,D.l b.L,D.i (IntKind.i64.wrap (c.I + (1:Int)))])))) (T.leaf (Rd.out (Ex.exit 0) [D.l b.L])):=by kernel_rfl
theorem t20_9 (a b:D):roundT C tab20 20 (loopOf C.P 20 9) l20_9 [a,b] =
 T.ite (decide (b.I < (a.L.length:Int))) (T.need (decide ((0:Int) ≤ b.I ∧ b.I < (a.L.length:Int))) (T.ite (decide ((↑(List.length (D.L (List.getD (List.getD a.L b.I.toNat []) 0 default))):Int) > (40:Int))) (T.leaf (Rd.out Ex.ret [D.b false])) (T.leaf (Rd.again [D.l a.L,D.i (IntKind.i64.wrap (b.I + (1:Int)))])))) (T.leaf (Rd.out (Ex.exit 2) [])):=by kernel_rfl
theorem t81 (a b c d e:D):fnT C tab81 81 s81 [a,b,c,d,e] =
 T.need (yes (smallRows a.L ∧ smallRows b.L ∧ c.L.length < big)) (T.ite (!compoundOk a.L b.L c.L d.I) (T.leaf [D.b true]) (T.need (decide ((0:Int) ≤ (0:Int) ∧ (0:Int) < (e.L.length:Int))) (T.leaf [D.b ((a.L.length:Int) != (↑(List.length (D.L (List.getD (List.getD e.L (Int.toNat (0:Int)) []) 0 default))):Int))]))):=by kernel_rfl
theorem t100 (a b:D):fnT C tab100 100 s100 [a,b] =
 T.need (yes (smallCs a.L ∧ 0 < b.L.length ∧ (a.L.length:Int) = (a.L.length:Int) ∧ (0:Int) ≤ (0:Int) ∧ (0:Int) ≤ (a.L.length:Int))) (T.ite (decide (firstFrom (fun j=>!kindAt (surfs b.L) a.L j) (Int.toNat (0:Int)) (a.L.length - Int.toNat (0:Int)) ≥ (0:Int))) (T.leaf [D.i (firstFrom (fun j=>!kindAt (surfs b.L) a.L j) (Int.toNat (0:Int)) (a.L.length - Int.toNat (0:Int)))]) (T.leaf [D.i (-1:Int)])):=by kernel_rfl
theorem t100_2 (a b c d:D):roundT C tab100 100 (loopOf C.P 100 2) l100_2 [a,b,c,d] =
 T.ite (decide (d.I < c.I)) (T.need (decide ((0:Int) ≤ d.I ∧ d.I < (a.L.length:Int))) (T.need (yes (smallRows (D.L (List.getD (List.getD a.L d.I.toNat []) 0 default)) ∧ smallRows (D.L (List.getD (List.getD a.L d.I.toNat []) (0 + 1) default)) ∧ List.length (D.L (List.getD (List.getD a.L d.I.toNat []) (0 + 1 + 1) default)) < big ∧ 0 < b.L.length)) (T.ite (!(compoundOk (D.L (List.getD (List.getD a.L d.I.toNat []) 0 default)) (D.L (List.getD (List.getD a.L d.I.toNat []) (0 + 1) default)) (D.L (List.getD (List.getD a.L d.I.toNat []) (0 + 1 + 1) default)) (D.I (List.getD (List.getD a.L d.I.toNat []) (0 + 1 + 1 + 1) default)) && decide ((↑(List.length (D.L (List.getD (List.getD a.L d.I.toNat []) 0 default))):Int) = surfs b.L))) (T.leaf (Rd.out Ex.ret [D.i d.I])) (T.leaf (Rd.again [D.l a.L,D.l b.L,D.i c.I,D.i (IntKind.i64.wrap (d.I + (1:Int)))]))))) (T.leaf (Rd.out (Ex.exit 0) [])):=by kernel_rfl
theorem t80 (a b:D):fnT C tab80 80 s80 [a,b] =
 T.need (yes (smallCs a.L ∧ 0 < b.L.length)) (T.leaf [D.b (decide (firstFrom (fun j=>!kindAt (surfs b.L) a.L j) 0 a.L.length ≥ (0:Int)))]):=by kernel_rfl
theorem t83 (a b:D):fnT C tab83 83 s83 [a,b] =
 T.need (decide ((0:Int) ≤ (0:Int) ∧ (0:Int) < (b.L.length:Int))) (T.need (yes (fewN (↑(List.length (D.L (List.getD (List.getD b.L (Int.toNat (0:Int)) []) 0 default))):Int))) (T.leaf [D.b !loopOk a.L (↑(List.length (D.L (List.getD (List.getD b.L (Int.toNat (0:Int)) []) 0 default))):Int)])):=by kernel_rfl
theorem t101 (a b:D):fnT C tab101 101 s101 [a,b] =
 T.need (yes (a.L.length < big ∧ 0 < b.L.length ∧ fewN (surfs b.L) ∧ (a.L.length:Int) = (a.L.length:Int) ∧ (0:Int) ≤ (0:Int) ∧ (0:Int) ≤ (a.L.length:Int))) (T.ite (decide (firstFrom (fun j=>!loopAt (surfs b.L) a.L j) (Int.toNat (0:Int)) (a.L.length - Int.toNat (0:Int)) ≥ (0:Int))) (T.leaf [D.i (firstFrom (fun j=>!loopAt (surfs b.L) a.L j) (Int.toNat (0:Int)) (a.L.length - Int.toNat (0:Int)))]) (T.leaf [D.i (-1:Int)])):=by kernel_rfl
theorem t101_2 (a b c d:D):roundT C tab101 101 (loopOf C.P 101 2) l101_2 [a,b,c,d] =
 T.ite (decide (d.I < c.I)) (T.need (decide ((0:Int) ≤ d.I ∧ d.I < (a.L.length:Int))) (T.need (yes (0 < b.L.length ∧ fewN (surfs b.L))) (T.ite (!loopOk (D.L (List.getD (List.getD a.L d.I.toNat []) 0 default)) (surfs b.L)) (T.leaf (Rd.out Ex.ret [D.i d.I])) (T.leaf (Rd.again [D.l a.L,D.l b.L,D.i c.I,D.i (IntKind.i64.wrap (d.I + (1:Int)))]))))) (T.leaf (Rd.out (Ex.exit 0) [])):=by kernel_rfl
theorem t82 (a b:D):fnT C tab82 82 s82 [a,b] =
 T.need (yes (a.L.length < big ∧ 0 < b.L.length ∧ fewN (surfs b.L))) (T.leaf [D.b (decide (firstFrom (fun j=>!loopAt (surfs b.L) a.L j) 0 a.L.length ≥ (0:Int)))]):=by kernel_rfl
theorem t52 (a b c:D):fnT C tab52 52 s52 [a,b,c] =
 T.ite (!within (a.L.length:Int) (1:Int) (8:Int)) (T.leaf [D.b false]) (T.ite (decide ((b.L.length:Int) > (8:Int))) (T.leaf [D.b false]) (T.ite (!within c.I (1:Int) (8:Int)) (T.leaf [D.b false]) (T.need (yes (smallCs a.L ∧ 0 < a.L.length)) (T.ite (!allFrom (kindAt (surfs a.L) a.L) 0 a.L.length) (T.leaf [D.b false]) (T.need (yes (b.L.length < big ∧ 0 < a.L.length ∧ fewN (surfs a.L))) (T.leaf [D.b !!allFrom (loopAt (surfs a.L) b.L) 0 b.L.length])))))):=by kernel_rfl
theorem t54 (a b c d e f g:D):fnT C tab54 54 s54 [a,b,c,d,e,f,g] =
 T.need (yes (compoundOk a.L b.L c.L d.I = true ∧ e.L.length ≤ 8 ∧ f.L.length = e.L.length ∧ allFrom (loopAt (a.L.length:Int) e.L) 0 e.L.length = true ∧ (e.L.length:Int) = (e.L.length:Int) ∧ (0:Int) ≤ (0:Int) ∧ (0:Int) ≤ (e.L.length:Int) ∧ (0:Int) ≤ (0:Int) ∧ (0:Int) ≤ (1000000:Int) ∧ (0:Int) ≤ (0:Int) ∧ (0:Int) ≤ (3000000:Int) * (0:Int))) (T.ite (usedFrom [D.l a.L,D.l b.L,D.l c.L,D.i d.I] e.L f.L g.I (Int.toNat (0:Int)) (e.L.length - Int.toNat (0:Int)) (0:Int) (0:Int)).snd (T.leaf [D.i (usedFrom [D.l a.L,D.l b.L,D.l c.L,D.i d.I] e.L f.L g.I (Int.toNat (0:Int)) (e.L.length - Int.toNat (0:Int)) (0:Int) (0:Int)).fst,D.b true]) (T.leaf [D.i 0,D.b false])):=by kernel_rfl
theorem t54_3 (a b c d e f g h i j k:D):roundT C tab54 54 (loopOf C.P 54 3) l54_3 [a,b,c,d,e,f,g,h,i,j,k] =
 T.ite (decide (g.I < f.I)) (T.need (decide ((0:Int) ≤ g.I ∧ g.I < (e.L.length:Int))) (T.need (decide ((0:Int) ≤ g.I ∧ g.I < (a.L.length:Int))) (T.ite (D.I (List.getD (List.getD a.L g.I.toNat []) 0 default) != b.I) (T.leaf (Rd.again [D.l a.L,D.i b.I,D.i c.I,D.i d.I,D.l e.L,D.i f.I,D.i (IntKind.i64.wrap (g.I + (1:Int))),D.l h.L,D.l i.L,D.l j.L,D.i k.I])) (T.need (yes (drivePre h.L i.L j.L k.I (D.L (List.getD (List.getD e.L g.I.toNat []) 0 default)) ∧ (0:Int) ≤ d.I ∧ d.I ≤ (1000000:Int))) (T.ite (!(drive h.L i.L j.L k.I (D.L (List.getD (List.getD e.L g.I.toNat []) 0 default)) d.I).snd.snd) (T.leaf (Rd.out Ex.ret [D.i 0,D.b false])) (T.leaf (Rd.again [D.l a.L,D.i b.I,D.i (IntKind.i64.wrap (c.I + (drive h.L i.L j.L k.I (D.L (List.getD (List.getD e.L g.I.toNat []) 0 default)) d.I).snd.fst)),D.i (drive h.L i.L j.L k.I (D.L (List.getD (List.getD e.L g.I.toNat []) 0 default)) d.I).fst,D.l e.L,D.i f.I,D.i (IntKind.i64.wrap (g.I + (1:Int))),D.l h.L,D.l i.L,D.l j.L,D.i k.I]))))))) (T.leaf (Rd.out (Ex.exit 0) [D.i c.I])):=by kernel_rfl
theorem t22 (a b c:D):fnT C tab22 22 s22 [a,b,c] =
 T.ite (decide ((a.L.length:Int) < (1:Int))) (T.leaf [D.b false]) (T.ite (decide ((a.L.length:Int) > (8:Int))) (T.leaf [D.b false]) (T.ite (decide ((b.L.length:Int) > (8:Int))) (T.leaf [D.b false]) (T.ite (!within c.I (1:Int) (8:Int)) (T.leaf [D.b false]) (T.need (yes (smallCs a.L ∧ 0 < a.L.length ∧ (0:Int) ≤ (0:Int) ∧ (0:Int) ≤ (a.L.length:Int))) (T.ite (allFrom (kindAt (surfs a.L) a.L) (Int.toNat (0:Int)) (a.L.length - Int.toNat (0:Int))) (T.need (yes (0 < a.L.length ∧ fewN (surfs a.L) ∧ b.L.length ≤ 8 ∧ (∀ (j:Nat),j < b.L.length → List.length (rowAt b.L j) < lim) ∧ (0:Int) ≤ (0:Int) ∧ (0:Int) ≤ (b.L.length:Int))) (T.ite (allFrom (loopAt (surfs a.L) b.L) (Int.toNat (0:Int)) (b.L.length - Int.toNat (0:Int))) (T.leaf [D.b true]) (T.leaf [D.b false]))) (T.leaf [D.b false])))))):=by kernel_rfl
theorem t22_4 (a b c:D):roundT C tab22 22 (loopOf C.P 22 4) l22_4 [a,b,c] =
 T.ite (decide (c.I < (a.L.length:Int))) (T.need (decide ((0:Int) ≤ c.I ∧ c.I < (a.L.length:Int))) (T.need (yes (List.length (D.L (List.getD (List.getD a.L c.I.toNat []) 0 default)) < big ∧ List.length (D.L (List.getD (List.getD a.L c.I.toNat []) (0 + 1) default)) < big ∧ List.length (D.L (List.getD (List.getD a.L c.I.toNat []) (0 + 1 + 1) default)) < big)) (T.ite (!compoundOk (D.L (List.getD (List.getD a.L c.I.toNat []) 0 default)) (D.L (List.getD (List.getD a.L c.I.toNat []) (0 + 1) default)) (D.L (List.getD (List.getD a.L c.I.toNat []) (0 + 1 + 1) default)) (D.I (List.getD (List.getD a.L c.I.toNat []) (0 + 1 + 1 + 1) default))) (T.leaf (Rd.out Ex.ret [D.b false])) (T.need (decide ((0:Int) ≤ c.I ∧ c.I < (a.L.length:Int))) (T.need (decide ((0:Int) ≤ (0:Int) ∧ (0:Int) < (a.L.length:Int))) (T.ite ((↑(List.length (D.L (List.getD (List.getD a.L c.I.toNat []) 0 default))):Int) != (↑(List.length (D.L (List.getD (List.getD a.L (Int.toNat (0:Int)) []) 0 default))):Int)) (T.leaf (Rd.out Ex.ret [D.b false])) (T.leaf (Rd.again [D.l a.L,D.l b.L,D.i (IntKind.i64.wrap (c.I + (1:Int)))])))))))) (T.leaf (Rd.out (Ex.exit 0) [D.l a.L,D.l b.L])):=by kernel_rfl
theorem t22_9 (a b c:D):roundT C tab22 22 (loopOf C.P 22 9) l22_9 [a,b,c] =
 T.ite (decide (c.I < (b.L.length:Int))) (T.need (decide ((0:Int) ≤ c.I ∧ c.I < (b.L.length:Int))) (T.need (decide ((0:Int) ≤ (0:Int) ∧ (0:Int) < (a.L.length:Int))) (T.need (yes (fewN (↑(List.length (D.L (List.getD (List.getD a.L (Int.toNat (0:Int)) []) 0 default))):Int) ∧ List.length (D.L (List.getD (List.getD b.L c.I.toNat []) 0 default)) < lim)) (T.ite (!loopOk (D.L (List.getD (List.getD b.L c.I.toNat []) 0 default)) (↑(List.length (D.L (List.getD (List.getD a.L (Int.toNat (0:Int)) []) 0 default))):Int)) (T.leaf (Rd.out Ex.ret [D.b false])) (T.leaf (Rd.again [D.l a.L,D.l b.L,D.i (IntKind.i64.wrap (c.I + (1:Int)))])))))) (T.leaf (Rd.out (Ex.exit 2) [])):=by kernel_rfl
theorem t41 (a b c d e f:D):fnT C tab41 41 s41 [a,b,c,d,e,f] =
 T.ite (decide ((e.L.length:Int) > c.I)) (T.leaf [D.i 0,D.b false]) (T.ite ((d.L.length:Int) != (b.L.length:Int)) (T.leaf [D.i 0,D.b false]) (T.need (yes (a.L.length ≤ 8 ∧ e.L.length ≤ 8 ∧ (0:Int) ≤ (0:Int) ∧ (0:Int) ≤ (e.L.length:Int))) (T.ite (allFrom (compAt a.L e.L) (Int.toNat (0:Int)) (e.L.length - Int.toNat (0:Int))) (T.need (decide ((0:Int) ≤ (e.L.length:Int) ∧ (e.L.length:Int) = (e.L.length:Int) ∧ (e.L.length:Int) ≤ (2:Int) ^ 40 ∧ (↑Try.prog.types[3].bytes:Int) * (e.L.length:Int) ≤ (2:Int) ^ 46)) (T.need (yes (TaskP a.L b.L ∧ d.L.length = b.L.length ∧ e.L.length ≤ 8 ∧ allFrom (compAt a.L e.L) 0 e.L.length = true ∧ (↑(List.length (List.replicate (Int.toNat (e.L.length:Int)) [D.i 0])):Int) = (e.L.length:Int) ∧ (0:Int) ≤ (0:Int) ∧ (0:Int) ≤ (b.L.length:Int) ∧ (0:Int) ≤ (0:Int) ∧ (0:Int) ≤ (0:Int) ∧ (0:Int) ≤ (0:Int) ∧ (0:Int) ≤ (3000000:Int) * (0:Int) ∧ List.replicate (Int.toNat (e.L.length:Int)) [D.i 0] = mkI (ints (List.replicate (Int.toNat (e.L.length:Int)) [D.i 0])) ∧ List.length (ints (List.replicate (Int.toNat (e.L.length:Int)) [D.i 0])) = e.L.length ∧ ∀ (j:Nat),j < e.L.length → (0:Int) ≤ List.getD (ints (List.replicate (Int.toNat (e.L.length:Int)) [D.i 0])) j (0:Int) ∧ List.getD (ints (List.replicate (Int.toNat (e.L.length:Int)) [D.i 0])) j (0:Int) ≤ (1000000:Int))) (T.ite (refFrom a.L b.L d.L e.L (Int.toNat (0:Int)) (b.L.length - Int.toNat (0:Int)) (0:Int) (0:Int) (ints (List.replicate (Int.toNat (e.L.length:Int)) [D.i 0]))).snd.snd (T.ite ((refFrom a.L b.L d.L e.L (Int.toNat (0:Int)) (b.L.length - Int.toNat (0:Int)) (0:Int) (0:Int) (ints (List.replicate (Int.toNat (e.L.length:Int)) [D.i 0]))).fst != (e.L.length:Int)) (T.leaf [D.i 0,D.b false]) (T.leaf [D.i (refFrom a.L b.L d.L e.L (Int.toNat (0:Int)) (b.L.length - Int.toNat (0:Int)) (0:Int) (0:Int) (ints (List.replicate (Int.toNat (e.L.length:Int)) [D.i 0]))).snd.fst,D.b true])) (T.leaf [D.i 0,D.b false])))) (T.leaf [D.i 0,D.b false])))):=by kernel_rfl
theorem t41_4 (a b c d e f:D):roundT C tab41 41 (loopOf C.P 41 4) l41_4 [a,b,c,d,e,f] =
 T.ite (decide (c.I < (e.L.length:Int))) (T.need (decide ((0:Int) ≤ c.I ∧ c.I < (e.L.length:Int))) (T.ite (!within (D.I (List.getD (List.getD e.L c.I.toNat []) 0 default)) (0:Int) (IntKind.i64.wrap ((a.L.length:Int) - (1:Int)))) (T.leaf (Rd.out Ex.ret [D.i 0,D.b false])) (T.leaf (Rd.again [D.l a.L,D.l b.L,D.i (IntKind.i64.wrap (c.I + (1:Int))),D.l d.L,D.l e.L,D.i f.I])))) (T.leaf (Rd.out (Ex.exit 0) [D.l a.L,D.l b.L,D.l d.L,D.l e.L,D.i f.I])):=by kernel_rfl
theorem t41_11 (a b c d e f g h i j:D):roundT C tab41 41 (loopOf C.P 41 11) l41_11 [a,b,c,d,e,f,g,h,i,j] =
 T.ite (decide (f.I < (b.L.length:Int))) (T.need (decide ((0:Int) ≤ f.I ∧ f.I < (g.L.length:Int))) (T.ite (decide (D.I (List.getD (List.getD g.L f.I.toNat []) 0 default) < (0:Int))) (T.leaf (Rd.out Ex.ret [D.i 0,D.b false])) (T.ite (decide (D.I (List.getD (List.getD g.L f.I.toNat []) 0 default) > c.I)) (T.leaf (Rd.out Ex.ret [D.i 0,D.b false])) (T.ite (decide (D.I (List.getD (List.getD g.L f.I.toNat []) 0 default) ≥ (h.L.length:Int))) (T.leaf (Rd.out Ex.ret [D.i 0,D.b false])) (T.ite (D.I (List.getD (List.getD g.L f.I.toNat []) 0 default) == c.I) (T.need (decide ((0:Int) ≤ D.I (List.getD (List.getD g.L f.I.toNat []) 0 default) ∧ D.I (List.getD (List.getD g.L f.I.toNat []) 0 default) < (h.L.length:Int))) (T.need (decide ((0:Int) ≤ D.I (List.getD (List.getD h.L (Int.toNat (D.I (List.getD (List.getD g.L f.I.toNat []) 0 default))) []) 0 default) ∧ D.I (List.getD (List.getD h.L (Int.toNat (D.I (List.getD (List.getD g.L f.I.toNat []) 0 default))) []) 0 default) < (a.L.length:Int))) (T.need (decide ((0:Int) ≤ D.I (List.getD (List.getD g.L f.I.toNat []) 0 default) ∧ D.I (List.getD (List.getD g.L f.I.toNat []) 0 default) < (e.I.toNat:Int))) (T.need (decide (Int.toNat (D.I (List.getD (List.getD g.L f.I.toNat []) 0 default)) < j.L.length)) (T.need (decide ((0:Int) ≤ f.I ∧ f.I < (b.L.length:Int))) (T.need (yes (drivePre (D.L (List.getD (List.getD a.L (Int.toNat (D.I (List.getD (List.getD h.L (Int.toNat (D.I (List.getD (List.getD g.L f.I.toNat []) 0 default))) []) 0 default))) []) 0 default)) (D.L (List.getD (List.getD a.L (Int.toNat (D.I (List.getD (List.getD h.L (Int.toNat (D.I (List.getD (List.getD g.L f.I.toNat []) 0 default))) []) 0 default))) []) (0 + 1) default)) (D.L (List.getD (List.getD a.L (Int.toNat (D.I (List.getD (List.getD h.L (Int.toNat (D.I (List.getD (List.getD g.L f.I.toNat []) 0 default))) []) 0 default))) []) (0 + 1 + 1) default)) (D.I (List.getD (List.getD a.L (Int.toNat (D.I (List.getD (List.getD h.L (Int.toNat (D.I (List.getD (List.getD g.L f.I.toNat []) 0 default))) []) 0 default))) []) (0 + 1 + 1 + 1) default)) (D.L (List.getD (List.getD b.L f.I.toNat []) 0 default)))) (T.ite (decide (IntKind.i64.wrap (D.I (List.getD (List.getD j.L (Int.toNat (D.I (List.getD (List.getD g.L f.I.toNat []) 0 default))) []) 0 default) + useFrom (D.L (List.getD (List.getD a.L (Int.toNat (D.I (List.getD (List.getD h.L (Int.toNat (D.I (List.getD (List.getD g.L f.I.toNat []) 0 default))) []) 0 default))) []) (0 + 1 + 1) default)) (D.L (List.getD (List.getD b.L f.I.toNat []) 0 default)) 0 (List.length (D.L (List.getD (List.getD b.L f.I.toNat []) 0 default)))) > (1000000:Int))) (T.leaf (Rd.out Ex.ret [D.i 0,D.b false])) (T.need (decide ((0:Int) ≤ f.I ∧ f.I < (b.L.length:Int))) (T.need (decide ((0:Int) ≤ D.I (List.getD (List.getD g.L f.I.toNat []) 0 default) ∧ D.I (List.getD (List.getD g.L f.I.toNat []) 0 default) < (e.I.toNat:Int))) (T.need (decide (Int.toNat (D.I (List.getD (List.getD g.L f.I.toNat []) 0 default)) < j.L.length)) (T.need (yes (drivePre (D.L (List.getD (List.getD a.L (Int.toNat (D.I (List.getD (List.getD h.L (Int.toNat (D.I (List.getD (List.getD g.L f.I.toNat []) 0 default))) []) 0 default))) []) 0 default)) (D.L (List.getD (List.getD a.L (Int.toNat (D.I (List.getD (List.getD h.L (Int.toNat (D.I (List.getD (List.getD g.L f.I.toNat []) 0 default))) []) 0 default))) []) (0 + 1) default)) (D.L (List.getD (List.getD a.L (Int.toNat (D.I (List.getD (List.getD h.L (Int.toNat (D.I (List.getD (List.getD g.L f.I.toNat []) 0 default))) []) 0 default))) []) (0 + 1 + 1) default)) (D.I (List.getD (List.getD a.L (Int.toNat (D.I (List.getD (List.getD h.L (Int.toNat (D.I (List.getD (List.getD g.L f.I.toNat []) 0 default))) []) 0 default))) []) (0 + 1 + 1 + 1) default)) (D.L (List.getD (List.getD b.L f.I.toNat []) 0 default)) ∧ (0:Int) ≤ D.I (List.getD (List.getD j.L (Int.toNat (D.I (List.getD (List.getD g.L f.I.toNat []) 0 default))) []) 0 default) ∧ D.I (List.getD (List.getD j.L (Int.toNat (D.I (List.getD (List.getD g.L f.I.toNat []) 0 default))) []) 0 default) ≤ (1000000:Int))) (T.need (decide ((0:Int) ≤ D.I (List.getD (List.getD g.L f.I.toNat []) 0 default) ∧ D.I (List.getD (List.getD g.L f.I.toNat []) 0 default) < (e.I.toNat:Int))) (T.need (decide (Int.toNat (D.I (List.getD (List.getD g.L f.I.toNat []) 0 default)) < j.L.length)) (T.leaf (Rd.again [D.l a.L,D.l b.L,D.i (IntKind.i64.wrap (c.I + (1:Int))),D.i (IntKind.i64.wrap (d.I + (drive (D.L (List.getD (List.getD a.L (Int.toNat (D.I (List.getD (List.getD h.L (Int.toNat (D.I (List.getD (List.getD g.L f.I.toNat []) 0 default))) []) 0 default))) []) 0 default)) (D.L (List.getD (List.getD a.L (Int.toNat (D.I (List.getD (List.getD h.L (Int.toNat (D.I (List.getD (List.getD g.L f.I.toNat []) 0 default))) []) 0 default))) []) (0 + 1) default)) (D.L (List.getD (List.getD a.L (Int.toNat (D.I (List.getD (List.getD h.L (Int.toNat (D.I (List.getD (List.getD g.L f.I.toNat []) 0 default))) []) 0 default))) []) (0 + 1 + 1) default)) (D.I (List.getD (List.getD a.L (Int.toNat (D.I (List.getD (List.getD h.L (Int.toNat (D.I (List.getD (List.getD g.L f.I.toNat []) 0 default))) []) 0 default))) []) (0 + 1 + 1 + 1) default)) (D.L (List.getD (List.getD b.L f.I.toNat []) 0 default)) (D.I (List.getD (List.getD j.L (Int.toNat (D.I (List.getD (List.getD g.L f.I.toNat []) 0 default))) []) 0 default))).snd.fst)),D.i (e.I.toNat:Int),D.i (IntKind.i64.wrap (f.I + (1:Int))),D.l g.L,D.l h.L,D.i i.I,D.l (List.set j.L (Int.toNat (D.I (List.getD (List.getD g.L f.I.toNat []) 0 default))) (updC (List.getD j.L (Int.toNat (D.I (List.getD (List.getD g.L f.I.toNat []) 0 default))) []) [D.i (drive (D.L (List.getD (List.getD a.L (Int.toNat (D.I (List.getD (List.getD h.L (Int.toNat (D.I (List.getD (List.getD g.L f.I.toNat []) 0 default))) []) 0 default))) []) 0 default)) (D.L (List.getD (List.getD a.L (Int.toNat (D.I (List.getD (List.getD h.L (Int.toNat (D.I (List.getD (List.getD g.L f.I.toNat []) 0 default))) []) 0 default))) []) (0 + 1) default)) (D.L (List.getD (List.getD a.L (Int.toNat (D.I (List.getD (List.getD h.L (Int.toNat (D.I (List.getD (List.getD g.L f.I.toNat []) 0 default))) []) 0 default))) []) (0 + 1 + 1) default)) (D.I (List.getD (List.getD a.L (Int.toNat (D.I (List.getD (List.getD h.L (Int.toNat (D.I (List.getD (List.getD g.L f.I.toNat []) 0 default))) []) 0 default))) []) (0 + 1 + 1 + 1) default)) (D.L (List.getD (List.getD b.L f.I.toNat []) 0 default)) (D.I (List.getD (List.getD j.L (Int.toNat (D.I (List.getD (List.getD g.L f.I.toNat []) 0 default))) []) 0 default))).fst] 0 0 (List.length [K.int IntKind.i64])))]))))))))))))))) (T.need (decide ((0:Int) ≤ D.I (List.getD (List.getD g.L f.I.toNat []) 0 default) ∧ D.I (List.getD (List.getD g.L f.I.toNat []) 0 default) < (h.L.length:Int))) (T.need (decide ((0:Int) ≤ D.I (List.getD (List.getD h.L (Int.toNat (D.I (List.getD (List.getD g.L f.I.toNat []) 0 default))) []) 0 default) ∧ D.I (List.getD (List.getD h.L (Int.toNat (D.I (List.getD (List.getD g.L f.I.toNat []) 0 default))) []) 0 default) < (a.L.length:Int))) (T.need (decide ((0:Int) ≤ D.I (List.getD (List.getD g.L f.I.toNat []) 0 default) ∧ D.I (List.getD (List.getD g.L f.I.toNat []) 0 default) < (e.I.toNat:Int))) (T.need (decide (Int.toNat (D.I (List.getD (List.getD g.L f.I.toNat []) 0 default)) < j.L.length)) (T.need (decide ((0:Int) ≤ f.I ∧ f.I < (b.L.length:Int))) (T.need (yes (drivePre (D.L (List.getD (List.getD a.L (Int.toNat (D.I (List.getD (List.getD h.L (Int.toNat (D.I (List.getD (List.getD g.L f.I.toNat []) 0 default))) []) 0 default))) []) 0 default)) (D.L (List.getD (List.getD a.L (Int.toNat (D.I (List.getD (List.getD h.L (Int.toNat (D.I (List.getD (List.getD g.L f.I.toNat []) 0 default))) []) 0 default))) []) (0 + 1) default)) (D.L (List.getD (List.getD a.L (Int.toNat (D.I (List.getD (List.getD h.L (Int.toNat (D.I (List.getD (List.getD g.L f.I.toNat []) 0 default))) []) 0 default))) []) (0 + 1 + 1) default)) (D.I (List.getD (List.getD a.L (Int.toNat (D.I (List.getD (List.getD h.L (Int.toNat (D.I (List.getD (List.getD g.L f.I.toNat []) 0 default))) []) 0 default))) []) (0 + 1 + 1 + 1) default)) (D.L (List.getD (List.getD b.L f.I.toNat []) 0 default)))) (T.ite (decide (IntKind.i64.wrap (D.I (List.getD (List.getD j.L (Int.toNat (D.I (List.getD (List.getD g.L f.I.toNat []) 0 default))) []) 0 default) + useFrom (D.L (List.getD (List.getD a.L (Int.toNat (D.I (List.getD (List.getD h.L (Int.toNat (D.I (List.getD (List.getD g.L f.I.toNat []) 0 default))) []) 0 default))) []) (0 + 1 + 1) default)) (D.L (List.getD (List.getD b.L f.I.toNat []) 0 default)) 0 (List.length (D.L (List.getD (List.getD b.L f.I.toNat []) 0 default)))) > (1000000:Int))) (T.leaf (Rd.out Ex.ret [D.i 0,D.b false])) (T.need (decide ((0:Int) ≤ f.I ∧ f.I < (b.L.length:Int))) (T.need (decide ((0:Int) ≤ D.I (List.getD (List.getD g.L f.I.toNat []) 0 default) ∧ D.I (List.getD (List.getD g.L f.I.toNat []) 0 default) < (e.I.toNat:Int))) (T.need (decide (Int.toNat (D.I (List.getD (List.getD g.L f.I.toNat []) 0 default)) < j.L.length)) (T.need (yes (drivePre (D.L (List.getD (List.getD a.L (Int.toNat (D.I (List.getD (List.getD h.L (Int.toNat (D.I (List.getD (List.getD g.L f.I.toNat []) 0 default))) []) 0 default))) []) 0 default)) (D.L (List.getD (List.getD a.L (Int.toNat (D.I (List.getD (List.getD h.L (Int.toNat (D.I (List.getD (List.getD g.L f.I.toNat []) 0 default))) []) 0 default))) []) (0 + 1) default)) (D.L (List.getD (List.getD a.L (Int.toNat (D.I (List.getD (List.getD h.L (Int.toNat (D.I (List.getD (List.getD g.L f.I.toNat []) 0 default))) []) 0 default))) []) (0 + 1 + 1) default)) (D.I (List.getD (List.getD a.L (Int.toNat (D.I (List.getD (List.getD h.L (Int.toNat (D.I (List.getD (List.getD g.L f.I.toNat []) 0 default))) []) 0 default))) []) (0 + 1 + 1 + 1) default)) (D.L (List.getD (List.getD b.L f.I.toNat []) 0 default)) ∧ (0:Int) ≤ D.I (List.getD (List.getD j.L (Int.toNat (D.I (List.getD (List.getD g.L f.I.toNat []) 0 default))) []) 0 default) ∧ D.I (List.getD (List.getD j.L (Int.toNat (D.I (List.getD (List.getD g.L f.I.toNat []) 0 default))) []) 0 default) ≤ (1000000:Int))) (T.need (decide ((0:Int) ≤ D.I (List.getD (List.getD g.L f.I.toNat []) 0 default) ∧ D.I (List.getD (List.getD g.L f.I.toNat []) 0 default) < (e.I.toNat:Int))) (T.need (decide (Int.toNat (D.I (List.getD (List.getD g.L f.I.toNat []) 0 default)) < j.L.length)) (T.leaf (Rd.again [D.l a.L,D.l b.L,D.i c.I,D.i (IntKind.i64.wrap (d.I + (drive (D.L (List.getD (List.getD a.L (Int.toNat (D.I (List.getD (List.getD h.L (Int.toNat (D.I (List.getD (List.getD g.L f.I.toNat []) 0 default))) []) 0 default))) []) 0 default)) (D.L (List.getD (List.getD a.L (Int.toNat (D.I (List.getD (List.getD h.L (Int.toNat (D.I (List.getD (List.getD g.L f.I.toNat []) 0 default))) []) 0 default))) []) (0 + 1) default)) (D.L (List.getD (List.getD a.L (Int.toNat (D.I (List.getD (List.getD h.L (Int.toNat (D.I (List.getD (List.getD g.L f.I.toNat []) 0 default))) []) 0 default))) []) (0 + 1 + 1) default)) (D.I (List.getD (List.getD a.L (Int.toNat (D.I (List.getD (List.getD h.L (Int.toNat (D.I (List.getD (List.getD g.L f.I.toNat []) 0 default))) []) 0 default))) []) (0 + 1 + 1 + 1) default)) (D.L (List.getD (List.getD b.L f.I.toNat []) 0 default)) (D.I (List.getD (List.getD j.L (Int.toNat (D.I (List.getD (List.getD g.L f.I.toNat []) 0 default))) []) 0 default))).snd.fst)),D.i (e.I.toNat:Int),D.i (IntKind.i64.wrap (f.I + (1:Int))),D.l g.L,D.l h.L,D.i i.I,D.l (List.set j.L (Int.toNat (D.I (List.getD (List.getD g.L f.I.toNat []) 0 default))) (updC (List.getD j.L (Int.toNat (D.I (List.getD (List.getD g.L f.I.toNat []) 0 default))) []) [D.i (drive (D.L (List.getD (List.getD a.L (Int.toNat (D.I (List.getD (List.getD h.L (Int.toNat (D.I (List.getD (List.getD g.L f.I.toNat []) 0 default))) []) 0 default))) []) 0 default)) (D.L (List.getD (List.getD a.L (Int.toNat (D.I (List.getD (List.getD h.L (Int.toNat (D.I (List.getD (List.getD g.L f.I.toNat []) 0 default))) []) 0 default))) []) (0 + 1) default)) (D.L (List.getD (List.getD a.L (Int.toNat (D.I (List.getD (List.getD h.L (Int.toNat (D.I (List.getD (List.getD g.L f.I.toNat []) 0 default))) []) 0 default))) []) (0 + 1 + 1) default)) (D.I (List.getD (List.getD a.L (Int.toNat (D.I (List.getD (List.getD h.L (Int.toNat (D.I (List.getD (List.getD g.L f.I.toNat []) 0 default))) []) 0 default))) []) (0 + 1 + 1 + 1) default)) (D.L (List.getD (List.getD b.L f.I.toNat []) 0 default)) (D.I (List.getD (List.getD j.L (Int.toNat (D.I (List.getD (List.getD g.L f.I.toNat []) 0 default))) []) 0 default))).fst] 0 0 (List.length [K.int IntKind.i64])))])))))))))))))))))))) (T.leaf (Rd.out (Ex.exit 2) [D.i c.I,D.i d.I,D.l g.L,D.l h.L,D.i i.I])):=by kernel_rfl
section
variable {α:Type} {p:Nat → Bool} {i len:Nat} {rt rf r:α}
theorem all_step (h:(T.ite (allFrom p i (len - i)) (.leaf rt) (.leaf rf)).run = some r) (hlt:i < len):(p i = false → some rf = some r) ∧ (p i = true → (T.ite (allFrom p (i + 1) (len - (i + 1))) (.leaf rt) (.leaf rf)).run = some r):=by
 rw [show len - i = (len - (i + 1)) + 1 by omega] at h
 simp only [allFrom] at h
 refine ⟨fun hp=>?_,fun hp=>?_⟩
 ·rw [hp,Bool.false_and] at h; exact h
 ·rw [hp,Bool.true_and] at h; exact h
theorem all_end (h:(T.ite (allFrom p i (len - i)) (.leaf rt) (.leaf rf)).run = some r) (hge:¬ i < len):some rt = some r:=by
 rw [show len - i = 0 by omega] at h
 exact h
end
section
variable {p:Nat → Bool} {i len:Nat} {ro r:Ex × List D}
theorem first_step (h:(T.ite (decide (firstFrom p i (len - i) ≥ 0)) (.leaf (.ret,[.i (firstFrom p i (len - i))])) (.leaf ro)).run = some r) (hlt:i < len) :
    (p i = true → some (Ex.ret,[D.i (i:Int)]) = some r) ∧ (p i = false → (T.ite (decide (firstFrom p (i + 1) (len - (i + 1)) ≥ 0)) (.leaf (.ret,[.i (firstFrom p (i + 1) (len - (i + 1)))])) (.leaf ro)).run = some r):=by
 rw [show len - i = (len - (i + 1)) + 1 by omega] at h
 simp only [firstFrom] at h
 refine ⟨fun hp=>?_,fun hp=>?_⟩
 ·simp only [hp,if_true,run_ite,run_leaf] at h
  rw [if_pos (by simp)] at h
  exact h
 ·simp only [hp,Bool.false_eq_true,if_false] at h
  exact h
theorem first_end (h:(T.ite (decide (firstFrom p i (len - i) ≥ 0)) (.leaf (.ret,[.i (firstFrom p i (len - i))])) (.leaf ro)).run = some r) (hge:¬ i < len):some ro = some r:=by
 rw [show len - i = 0 by omega] at h
 simp only [firstFrom,run_ite,run_leaf] at h
 rw [if_neg (by simp)] at h
 exact h
end
theorem ok20_4 (n:Nat):LoopSim C (n + 1) 20 (loopOf C.P 20 4) (mkL l20_4 G20_4):=by
 refine loop_of hC (sp:=sp20) (lp:=lp20) ⟨ok15 n,trivial⟩ [] (by kernel_rfl) rfl (fun k hk=>by cases hk) (by kernel_rfl) (fun ds=>(((ds.getD 0 default).L.length:Int) - (ds.getD 2 default).I).toNat) fun ds rr h=>?_
 unfold G20_4 at h
 split at h
 ·rename_i cs ls i
  obtain ⟨hp,h⟩:=need_some h
  rw [yes_iff] at hp
  obtain ⟨h1,h2,h3⟩:=hp
  refine ⟨by rw [fuelC]; simp; omega,?_⟩
  rw [show roundT C (mkTab sp20 lp20) 20 (loopOf C.P 20 4) l20_4 [cs,ls,i] = _ from t20_4 cs ls i]
  obtain ⟨k,hk⟩:∃ k:Nat,i.I = k:=⟨i.I.toNat,by omega⟩
  simp only [hk,Int.toNat_natCast] at h h3 ⊢
  refine rd_if (fun hlt=>?_) fun hge=>rd_out (all_end h (by omega))
  have hkl:k < cs.L.length:=by omega
  obtain ⟨s1,s2⟩:=all_step h hkl
  refine rd_dec ⟨by omega,by omega⟩ (rd_not (fun c=>rd_out (s1 c)) fun c=>?_)
  rw [wrap_succ (by omega)]
  exact rd_again ((need_yes ⟨h1,by simp only [I_i]; omega,by simp only [I_i,L_l]; omega⟩).trans (s2 c)) (show ((cs.L.length:Int) - ((k + 1:Nat):Int)).toNat < ((cs.L.length:Int) - i.I).toNat by omega)
 ·cases h
theorem ok20_9 (n:Nat):LoopSim C (n + 1) 20 (loopOf C.P 20 9) (mkL l20_9 G20_9):=by
 refine loop_of hC (sp:=sp20) (lp:=lp20) ⟨ok15 n,trivial⟩ [] (by kernel_rfl) rfl (fun k hk=>by cases hk) (by kernel_rfl) (fun ds=>(((ds.getD 0 default).L.length:Int) - (ds.getD 1 default).I).toNat) fun ds rr h=>?_
 unfold G20_9 at h
 split at h
 ·rename_i ls i
  obtain ⟨hp,h⟩:=need_some h
  rw [yes_iff] at hp
  obtain ⟨h1,h2,h3⟩:=hp
  refine ⟨by rw [fuelC]; simp; omega,?_⟩
  rw [show roundT C (mkTab sp20 lp20) 20 (loopOf C.P 20 9) l20_9 [ls,i] = _ from t20_9 ls i]
  obtain ⟨k,hk⟩:∃ k:Nat,i.I = k:=⟨i.I.toNat,by omega⟩
  simp only [hk,Int.toNat_natCast] at h h3 ⊢
  refine rd_if (fun hlt=>?_) fun hge=>rd_out (all_end h (by omega))
  have hkl:k < ls.L.length:=by omega
  obtain ⟨s1,s2⟩:=all_step h hkl
  have e:rowAt ls.L k = ((ls.L.getD k []).getD 0 default).L:=rfl
  refine rd_dec ⟨by omega,by omega⟩ (rd_if (fun c=>rd_out (s1 ?_)) fun c=>?_)
  ·exact decide_eq_false (by rw [e]; omega)
  ·rw [wrap_succ (by omega)]
   exact rd_again ((need_yes ⟨h1,by simp only [I_i]; omega,by simp only [I_i,L_l]; omega⟩).trans (s2 (decide_eq_true (by rw [e]; omega)))) (show ((ls.L.length:Int) - ((k + 1:Nat):Int)).toNat < ((ls.L.length:Int) - i.I).toNat by omega)
 ·cases h
theorem ok20 (n:Nat):FnOK C (n + 2) 20 (mkF s20 G20):=by
 refine fn_of hC (sp:=sp20) (lp:=lp20) ⟨ok15 n,trivial⟩ (by kernel_rfl) [4,9] (by kernel_rfl) (by kernel_rfl) (fun k hk L hL=>by
  simp only [List.mem_cons,List.not_mem_nil,or_false] at hk
  rcases hk with rfl | rfl <;> cases hL
  ·exact ok20_4 n
  ·exact ok20_9 n) fun ds rr h=>?_
 unfold G20 at h
 split at h
 ·rename_i cs ls
  refine (congrArg T.run (t20 cs ls)).trans ?_
  simp only [Int.toNat_zero,Nat.sub_zero]
  rw [← h]
  unfold fewOk
  refine go_if (fun c=>?_) fun c=>go_if (fun c2=>?_) fun c2=>go_yes ⟨by omega,by omega,by omega⟩ (go_ite (fun c3=>go_yes ⟨by omega,by omega,by omega⟩ (go_ite (fun c4=>?_) fun c4=>?_)) fun c3=>?_)
  ·have:¬ cs.L.length ≤ 10:=by omega
   simp [this]
  ·have:¬ ls.L.length ≤ 10:=by omega
   simp [this]
  ·have e1:cs.L.length ≤ 10:=by omega
   have e2:ls.L.length ≤ 10:=by omega
   simp [c3,c4,e1,e2]
  ·simp [c4]
  ·simp [c3]
 ·cases h
theorem bne_dec (x y:Int):(x != y) = !decide (x = y):=by by_cases h:x = y <;> simp [h]
theorem ok81 (n:Nat):FnOK C (n + 7) 81 (mkF s81 G81):=by
 refine fn_of hC (sp:=sp81) (lp:=lp81) ⟨ok46 n,trivial⟩ (by kernel_rfl) [] (by kernel_rfl) rfl (fun k hk=>by cases hk) fun ds rr h=>?_
 unfold G81 at h
 split at h
 ·rename_i a b c d cs
  obtain ⟨hp,h⟩:=need_some h
  rw [yes_iff] at hp
  obtain ⟨h1,h2,h3,h4⟩:=hp
  refine (congrArg T.run (t81 a b c d cs)).trans ?_
  rw [← h]
  refine go_yes ⟨h1,h2,h3⟩ (go_not (fun c1=>by simp [c1]) fun c1=>go_dec ⟨by omega,by omega⟩ ?_)
  simp only [c1,Bool.true_and,run_leaf,Int.toNat_zero,bne_dec]
  rfl
 ·cases h
theorem ok100_2 (n:Nat):LoopSim C (n + 7) 100 (loopOf C.P 100 2) (mkL l100_2 G100_2):=by
 refine loop_of hC (sp:=sp100) (lp:=lp100) ⟨ok81 n,trivial⟩ [] (by kernel_rfl) rfl (fun k hk=>by cases hk) (by kernel_rfl) (fun ds=>((ds.getD 2 default).I - (ds.getD 3 default).I).toNat) fun ds rr h=>?_
 unfold G100_2 at h
 split at h
 ·rename_i cs c' m i
  obtain ⟨hp,h⟩:=need_some h
  rw [yes_iff] at hp
  obtain ⟨h1,h2,h3,h4,h5⟩:=hp
  have hb:big = 4611686018427387904:=rfl
  have hbb:=h1.1
  refine ⟨by rw [fuelC]; simp; omega,?_⟩
  rw [show roundT C (mkTab sp100 lp100) 100 (loopOf C.P 100 2) l100_2 [cs,c',m,i] = _ from t100_2 cs c' m i]
  obtain ⟨k,hk⟩:∃ k:Nat,i.I = k:=⟨i.I.toNat,by omega⟩
  simp only [hk,h3,Int.toNat_natCast] at h h5 ⊢
  refine rd_if (fun hlt=>?_) fun hge=>rd_out (first_end h (by omega))
  have hkl:k < cs.L.length:=by omega
  obtain ⟨s1,s2⟩:=first_step h hkl
  obtain ⟨q1,q2,q3⟩:=h1.2 k hkl
  refine rd_dec ⟨by omega,by omega⟩ (rd_yes ⟨q1,q2,q3,h2⟩ (rd_not (fun c=>rd_out (s1 ?_)) fun c=>?_))
  ·show (!kindAt _ _ _) = true
   rw [Bool.not_eq_true']; exact c
  ·rw [wrap_succ (by omega)]
   refine rd_again ((need_yes ⟨h1,h2,rfl,by simp only [I_i]; omega,by simp only [I_i]; omega⟩).trans (s2 ?_)) (show ((cs.L.length:Int) - ((k + 1:Nat):Int)).toNat < (m.I - i.I).toNat by omega)
   show (!kindAt _ _ _) = false
   rw [Bool.not_eq_false']; exact c
 ·cases h
theorem ok100 (n:Nat):FnOK C (n + 8) 100 (mkF s100 G100):=by
 refine fn_of hC (sp:=sp100) (lp:=lp100) ⟨ok81 n,trivial⟩ (by kernel_rfl) [2] (by kernel_rfl) (by kernel_rfl) (fun k hk L hL=>by simp at hk; subst hk; cases hL; exact ok100_2 n) fun ds rr h=>?_
 unfold G100 at h
 split at h
 ·rename_i cs c'
  obtain ⟨hp,h⟩:=need_some h
  rw [yes_iff] at hp
  refine (congrArg T.run (t100 cs c')).trans ?_
  rw [← h]
  simp only [Int.toNat_zero,Nat.sub_zero]
  refine go_yes ⟨hp.1,hp.2,by trivial,by omega,by omega⟩ (go_if (fun c=>rfl) fun c=>?_)
  rw [firstFrom_neg (by omega)]
 ·cases h
theorem ok80 (n:Nat):FnOK C (n + 9) 80 (mkF s80 G80):=by
 refine fn_of hC (sp:=sp80) (lp:=lp80) ⟨ok100 n,ok81 (n + 1),trivial⟩ (by kernel_rfl) [] (by kernel_rfl) rfl (fun k hk=>by cases hk) fun ds rr h=>?_
 unfold G80 at h
 split at h
 ·rename_i cs c'
  rw [← h]
  refine (congrArg T.run (t80 cs c')).trans ?_
  rw [firstFrom_all]
  simp only [Bool.not_not]
 ·cases h
theorem ok83 (n:Nat):FnOK C (n + 6) 83 (mkF s83 G83):=by
 refine fn_of hC (sp:=sp83) (lp:=lp83) ⟨ok69 n,trivial⟩ (by kernel_rfl) [] (by kernel_rfl) rfl (fun k hk=>by cases hk) fun ds rr h=>?_
 unfold G83 at h
 split at h
 ·rename_i l cs
  obtain ⟨hp,h⟩:=need_some h
  rw [yes_iff] at hp
  refine (congrArg T.run (t83 l cs)).trans ?_
  exact go_dec ⟨by omega,by have:=hp.1; omega⟩ (go_yes hp.2 h)
 ·cases h
theorem ok101_2 (n:Nat):LoopSim C (n + 6) 101 (loopOf C.P 101 2) (mkL l101_2 G101_2):=by
 refine loop_of hC (sp:=sp101) (lp:=lp101) ⟨ok83 n,trivial⟩ [] (by kernel_rfl) rfl (fun k hk=>by cases hk) (by kernel_rfl) (fun ds=>((ds.getD 2 default).I - (ds.getD 3 default).I).toNat) fun ds rr h=>?_
 unfold G101_2 at h
 split at h
 ·rename_i ls cs m i
  obtain ⟨hp,h⟩:=need_some h
  rw [yes_iff] at hp
  obtain ⟨h1,h2,h2b,h3,h4,h5⟩:=hp
  have hb:big = 4611686018427387904:=rfl
  refine ⟨by rw [fuelC]; simp; omega,?_⟩
  rw [show roundT C (mkTab sp101 lp101) 101 (loopOf C.P 101 2) l101_2 [ls,cs,m,i] = _ from t101_2 ls cs m i]
  obtain ⟨k,hk⟩:∃ k:Nat,i.I = k:=⟨i.I.toNat,by omega⟩
  simp only [hk,h3,Int.toNat_natCast] at h h5 ⊢
  refine rd_if (fun hlt=>?_) fun hge=>rd_out (first_end h (by omega))
  have hkl:k < ls.L.length:=by omega
  obtain ⟨s1,s2⟩:=first_step h hkl
  refine rd_dec ⟨by omega,by omega⟩ (rd_yes ⟨h2,h2b⟩ (rd_not (fun c=>rd_out (s1 ?_)) fun c=>?_))
  ·show (!loopAt _ _ _) = true
   rw [Bool.not_eq_true']; exact c
  ·rw [wrap_succ (by omega)]
   refine rd_again ((need_yes ⟨h1,h2,h2b,rfl,by simp only [I_i]; omega,by simp only [I_i]; omega⟩).trans (s2 ?_)) (show ((ls.L.length:Int) - ((k + 1:Nat):Int)).toNat < (m.I - i.I).toNat by omega)
   show (!loopAt _ _ _) = false
   rw [Bool.not_eq_false']; exact c
 ·cases h
theorem ok101 (n:Nat):FnOK C (n + 7) 101 (mkF s101 G101):=by
 refine fn_of hC (sp:=sp101) (lp:=lp101) ⟨ok83 n,trivial⟩ (by kernel_rfl) [2] (by kernel_rfl) (by kernel_rfl) (fun k hk L hL=>by simp at hk; subst hk; cases hL; exact ok101_2 n) fun ds rr h=>?_
 unfold G101 at h
 split at h
 ·rename_i ls cs
  obtain ⟨hp,h⟩:=need_some h
  rw [yes_iff] at hp
  refine (congrArg T.run (t101 ls cs)).trans ?_
  rw [← h]
  simp only [Int.toNat_zero,Nat.sub_zero]
  refine go_yes ⟨hp.1,hp.2.1,hp.2.2,by trivial,by omega,by omega⟩ (go_if (fun c=>rfl) fun c=>?_)
  rw [firstFrom_neg (by omega)]
 ·cases h
theorem ok82 (n:Nat):FnOK C (n + 8) 82 (mkF s82 G82):=by
 refine fn_of hC (sp:=sp82) (lp:=lp82) ⟨ok101 n,ok83 (n + 1),trivial⟩ (by kernel_rfl) [] (by kernel_rfl) rfl (fun k hk=>by cases hk) fun ds rr h=>?_
 unfold G82 at h
 split at h
 ·rename_i ls cs
  rw [← h]
  refine (congrArg T.run (t82 ls cs)).trans ?_
  rw [firstFrom_all]
  simp only [Bool.not_not]
 ·cases h
theorem surfs_few {cs:List (List D)} (h0:0 < cs.length) (h:allFrom (kindAt (surfs cs) cs) 0 cs.length = true):fewN (surfs cs):=by
 have:=allFrom_iff.1 h 0 (Nat.le_refl _) (by omega)
 simp only [kindAt,Bool.and_eq_true] at this
 have h1:=(drive_comp this.1).1
 unfold surfs fewN
 omega
theorem ok52 (n:Nat):FnOK C (n + 10) 52 (mkF s52 G52):=by
 refine fn_of hC (sp:=sp52) (lp:=lp52) ⟨ok47 (n + 8),ok80 n,ok82 (n + 1),ok81 (n + 2),ok83 (n + 3),trivial⟩ (by kernel_rfl) [] (by kernel_rfl) rfl (fun k hk=>by cases hk) fun ds rr h=>?_
 unfold G52 at h
 split at h
 ·rename_i cs ls m
  obtain ⟨hp,h⟩:=need_some h
  rw [yes_iff] at hp
  refine (congrArg T.run (t52 cs ls m)).trans ?_
  rw [← h]
  unfold taskOk
  have hb:big = 4611686018427387904:=rfl
  refine go_not (fun c=>by simp [c]) fun c=>go_if (fun c2=>?_) fun c2=>go_not (fun c3=>by simp [c3]) fun c3=>?_
  ·have:¬ ls.L.length ≤ 8:=by omega
   simp [this]
  ·have h0:=(Lite.within_iff.1 c).1
   have e2:ls.L.length ≤ 8:=by omega
   refine go_yes ⟨hp,by omega⟩ (go_not (fun c4=>by simp [c4]) fun c4=>go_yes ⟨by omega,by omega,surfs_few (by omega) c4⟩ ?_)
   simp [c,c3,c4,e2]
 ·cases h
theorem ne_of_bne {x y:Int} (h:(x != y) = true):x ≠ y:=by simpa using h
theorem eq_of_bne {x y:Int} (h:(x != y) = false):x = y:=by simpa using h
def DrvP (c:List D) (l:List (List D)):Prop:=drivePre (lx c 0) (lx c 1) (lx c 2) (ix c 3) l
theorem drv_rng {c:List D} {l:List (List D)} (h:DrvP c l) {w:Int} (h0:0 ≤ w) (h1:w ≤ 1000000):(0 ≤ (drv c l w).1 ∧ (drv c l w).1 ≤ 1000000) ∧ (0 ≤ (drv c l w).2.1 ∧ (drv c l w).2.1 ≤ 3000000):=by
 have hf:=fun c hc=>(fine_of h c hc).1
 have hb:=fun c hc=>(fine_of h c hc).2
 have h2:=driveL_range l w 0 true hf h0 h1
 have h3:=driveL_bound l w 0 true hf hb h0 h1
 have h4:=(stretch_of h.2).1
 unfold drv
 rw [drive_L]
 refine ⟨h2,by omega,by omega⟩
theorem used_eta (c:List D) (ls sets:List (List D)) (set:Int):∀ k i w s,usedFrom [.l (lx c 0),.l (lx c 1),.l (lx c 2),.i (ix c 3)] ls sets set i k w s = usedFrom c ls sets set i k w s
 | 0,_,_,_=>rfl
 | k + 1,i,w,s=>by
   have e:∀ l w,drv [.l (lx c 0),.l (lx c 1),.l (lx c 2),.i (ix c 3)] l w = drv c l w:=fun _ _=>rfl
   simp only [usedFrom,e,used_eta c ls sets set k]
theorem used_fst {c:List D} {ls sets:List (List D)} {set:Int}:∀ k i w s,(usedFrom c ls sets set i k w s).2 = false → (usedFrom c ls sets set i k w s).1 = 0
 | 0,_,_,_=>fun h=>by cases h
 | k + 1,i,w,s=>by
   simp only [usedFrom]
   split
   ·split
    ·exact used_fst k _ _ _
    ·exact fun _=>rfl
   ·exact used_fst k _ _ _
theorem used_rng {c:List D} {ls sets:List (List D)} {set:Int} (hl:∀ j,j < ls.length → DrvP c (rowAt ls j)):∀ k i w s,i + k ≤ ls.length → 0 ≤ w → w ≤ 1000000 → 0 ≤ s → 0 ≤ (usedFrom c ls sets set i k w s).1 ∧ (usedFrom c ls sets set i k w s).1 ≤ s + 3000000 * k
 | 0,i,w,s,_,_,_,hs=>by simp only [usedFrom]; omega
 | k + 1,i,w,s,h,h0,h1,hs=>by
   have h2:=drv_rng (hl i (by omega)) h0 h1
   simp only [usedFrom]
   split
   ·split
    ·have:=used_rng (sets:=sets) (set:=set) hl k (i + 1) (drv c (rowAt ls i) w).1 (s + (drv c (rowAt ls i) w).2.1) (by omega) h2.1.1 h2.1.2 (by omega)
     omega
    ·show 0 ≤ (0:Int) ∧ (0:Int) ≤ _
     omega
   ·have:=used_rng (sets:=sets) (set:=set) hl k (i + 1) w s (by omega) h0 h1 hs
    omega
theorem ok54_3 (n:Nat):LoopSim C (n + 4) 54 (loopOf C.P 54 3) (mkL l54_3 G54_3):=by
 refine loop_of hC (sp:=sp54) (lp:=lp54) ⟨ok70 n,trivial⟩ [] (by kernel_rfl) rfl (fun k hk=>by cases hk) (by kernel_rfl) (fun ds=>((ds.getD 5 default).I - (ds.getD 6 default).I).toNat) fun ds rr h=>?_
 unfold G54_3 at h
 split at h
 ·rename_i sets set sum wear ls m i a b c d
  obtain ⟨hp,h⟩:=need_some h
  rw [yes_iff] at hp
  obtain ⟨h1,h2,h3,h4,h5,h6,h7,h8,h9,h10,h11⟩:=hp
  refine ⟨by rw [fuelC]; simp; omega,?_⟩
  rw [show roundT C (mkTab sp54 lp54) 54 (loopOf C.P 54 3) l54_3 [sets,set,sum,wear,ls,m,i,a,b,c,d] = _ from t54_3 sets set sum wear ls m i a b c d]
  obtain ⟨k,hk⟩:∃ k:Nat,i.I = k:=⟨i.I.toNat,by omega⟩
  have hD:∀ j,j < ls.L.length → DrvP [.l a.L,.l b.L,.l c.L,.i d.I] (rowAt ls.L j):=fun j hj=>⟨h1,allFrom_iff.1 h4 j (Nat.zero_le _) (by omega)⟩
  simp only [hk,h5,Int.toNat_natCast,ix_def] at h h7 h11 ⊢
  refine rd_if (fun hlt=>?_) fun hge=>?_
  ·have hkl:k < ls.L.length:=by omega
   rw [show ls.L.length - k = (ls.L.length - (k + 1)) + 1 by omega] at h
   simp only [usedFrom] at h
   have hdr:=drv_rng (hD k hkl) h8 h9
   rw [wrap_succ (by omega)]
   have hμ:((ls.L.length:Int) - ((k + 1:Nat):Int)).toNat < (m.I - i.I).toNat:=by omega
   refine rd_dec ⟨by omega,by omega⟩ (rd_dec ⟨by omega,by omega⟩ (rd_ite (fun e=>?_) fun e=>?_))
   ·have e':¬ ix (sets.L.getD k []) 0 = set.I:=by simpa using e
    rw [if_neg e'] at h
    refine rd_again ((need_yes ⟨h1,h2,h3,h4,rfl,by simp only [I_i]; omega,by simp only [I_i]; omega,h8,h9,h10,by simp only [I_i]; omega⟩).trans h) hμ
   ·have e':ix (sets.L.getD k []) 0 = set.I:=by simpa using e
    rw [if_pos e'] at h
    refine rd_yes ⟨hD k hkl,h8,h9⟩ (rd_not (fun q=>?_) fun q=>?_)
    ·have q':(drv [.l a.L,.l b.L,.l c.L,.i d.I] (rowAt ls.L k) wear.I).2.2 = false:=q
     rw [q'] at h
     exact rd_out h
    ·have q':(drv [.l a.L,.l b.L,.l c.L,.i d.I] (rowAt ls.L k) wear.I).2.2 = true:=q
     rw [q'] at h
     have e2:(drive a.L b.L c.L d.I ((ls.L.getD k []).getD 0 default).L wear.I) = drv [.l a.L,.l b.L,.l c.L,.i d.I] (rowAt ls.L k) wear.I:=rfl
     rw [e2]
     have w1:IntKind.i64.wrap (sum.I + (drv [.l a.L,.l b.L,.l c.L,.i d.I] (rowAt ls.L k) wear.I).2.1) = sum.I + (drv [.l a.L,.l b.L,.l c.L,.i d.I] (rowAt ls.L k) wear.I).2.1:=wrap_id (by omega) (by omega)
     rw [w1]
     refine rd_again ((need_yes ⟨h1,h2,h3,h4,rfl,by simp only [I_i]; omega,by simp only [I_i]; omega,by simp only [I_i]; omega,by simp only [I_i]; omega,by simp only [I_i]; omega,by simp only [I_i]; omega⟩).trans h) hμ
  ·rw [show ls.L.length - k = 0 by omega] at h
   exact rd_out h
 ·cases h
theorem ok54 (n:Nat):FnOK C (n + 5) 54 (mkF s54 G54):=by
 refine fn_of hC (sp:=sp54) (lp:=lp54) ⟨ok70 n,trivial⟩ (by kernel_rfl) [3] (by kernel_rfl) (by kernel_rfl) (fun k hk L hL=>by simp at hk; subst hk; cases hL; exact ok54_3 n) fun ds rr h=>?_
 unfold G54 at h
 split at h
 ·rename_i a b c d ls sets set
  obtain ⟨hp,h⟩:=need_some h
  rw [yes_iff] at hp
  obtain ⟨h1,h2,h3,h4⟩:=hp
  refine (congrArg T.run (t54 a b c d ls sets set)).trans ?_
  rw [← h]
  simp only [Int.toNat_zero,Nat.sub_zero]
  refine go_yes ⟨h1,h2,h3,h4,by trivial,by omega,by omega,by omega,by omega,by omega,by omega⟩ (go_ite (fun c1=>?_) fun c1=>?_)
  ·have c2:(usedAll [.l a.L,.l b.L,.l c.L,.i d.I] ls.L sets.L set.I).2 = true:=c1
   rw [c2]; rfl
  ·have c2:(usedAll [.l a.L,.l b.L,.l c.L,.i d.I] ls.L sets.L set.I).2 = false:=c1
   have c3:(usedAll [.l a.L,.l b.L,.l c.L,.i d.I] ls.L sets.L set.I).1 = 0:=used_fst _ _ _ _ c1
   rw [c2,c3]
 ·cases h
theorem ok22_4 (n:Nat):LoopSim C (n + 3) 22 (loopOf C.P 22 4) (mkL l22_4 G22_4):=by
 refine loop_of hC (sp:=sp22) (lp:=lp22) ⟨ok50 (n + 2),ok18 n,ok37 (n + 1),trivial⟩ [] (by kernel_rfl) rfl (fun k hk=>by cases hk) (by kernel_rfl) (fun ds=>(((ds.getD 0 default).L.length:Int) - (ds.getD 2 default).I).toNat) fun ds rr h=>?_
 unfold G22_4 at h
 split at h
 ·rename_i cs ls i
  obtain ⟨hp,h⟩:=need_some h
  rw [yes_iff] at hp
  obtain ⟨h1,h2,h3,h4⟩:=hp
  have hb:big = 4611686018427387904:=rfl
  have hbb:=h1.1
  refine ⟨by rw [fuelC]; simp; omega,?_⟩
  rw [show roundT C (mkTab sp22 lp22) 22 (loopOf C.P 22 4) l22_4 [cs,ls,i] = _ from t22_4 cs ls i]
  obtain ⟨k,hk⟩:∃ k:Nat,i.I = k:=⟨i.I.toNat,by omega⟩
  simp only [hk,Int.toNat_natCast,Int.toNat_zero] at h h4 ⊢
  refine rd_if (fun hlt=>?_) fun hge=>rd_out (all_end h (by omega))
  have hkl:k < cs.L.length:=by omega
  obtain ⟨s1,s2⟩:=all_step h hkl
  obtain ⟨q1,q2,q3⟩:=h1.2 k hkl
  refine rd_dec ⟨by omega,by omega⟩ (rd_yes ⟨q1.1,q2.1,q3⟩ (rd_not (fun c=>rd_out (s1 ?_)) fun c=>rd_dec ⟨by omega,by omega⟩ (rd_dec ⟨by omega,by omega⟩ (rd_ite (fun c2=>rd_out (s1 ?_)) fun c2=>?_))))
  ·have c':compC (cs.L.getD k []) = false:=c
   unfold kindAt; rw [c',Bool.false_and]
  ·have c2':¬ (((lx (cs.L.getD k []) 0).length:Int) = surfs cs.L):=ne_of_bne c2
   unfold kindAt; rw [decide_eq_false c2',Bool.and_false]
  ·have c':compC (cs.L.getD k []) = true:=c
   have c2':((lx (cs.L.getD k []) 0).length:Int) = surfs cs.L:=eq_of_bne c2
   rw [wrap_succ (by omega)]
   exact rd_again ((need_yes ⟨h1,h2,by simp only [I_i]; omega,by simp only [I_i,L_l]; omega⟩).trans (s2 (by unfold kindAt; rw [c',decide_eq_true c2',Bool.and_true]))) (show ((cs.L.length:Int) - ((k + 1:Nat):Int)).toNat < ((cs.L.length:Int) - i.I).toNat by omega)
 ·cases h
theorem ok22_9 (n:Nat):LoopSim C (n + 3) 22 (loopOf C.P 22 9) (mkL l22_9 G22_9):=by
 refine loop_of hC (sp:=sp22) (lp:=lp22) ⟨ok50 (n + 2),ok18 n,ok37 (n + 1),trivial⟩ [] (by kernel_rfl) rfl (fun k hk=>by cases hk) (by kernel_rfl) (fun ds=>(((ds.getD 1 default).L.length:Int) - (ds.getD 2 default).I).toNat) fun ds rr h=>?_
 unfold G22_9 at h
 split at h
 ·rename_i cs ls i
  obtain ⟨hp,h⟩:=need_some h
  rw [yes_iff] at hp
  obtain ⟨h1,h2,h3,h4,h5,h6⟩:=hp
  refine ⟨by rw [fuelC]; simp; omega,?_⟩
  rw [show roundT C (mkTab sp22 lp22) 22 (loopOf C.P 22 9) l22_9 [cs,ls,i] = _ from t22_9 cs ls i]
  obtain ⟨k,hk⟩:∃ k:Nat,i.I = k:=⟨i.I.toNat,by omega⟩
  simp only [hk,Int.toNat_natCast,Int.toNat_zero] at h h6 ⊢
  refine rd_if (fun hlt=>?_) fun hge=>rd_out (all_end h (by omega))
  have hkl:k < ls.L.length:=by omega
  obtain ⟨s1,s2⟩:=all_step h hkl
  refine rd_dec ⟨by omega,by omega⟩ (rd_dec ⟨by omega,by omega⟩ (rd_yes ⟨h2,h4 k hkl⟩ (rd_not (fun c=>rd_out (s1 c)) fun c=>?_)))
  rw [wrap_succ (by omega)]
  exact rd_again ((need_yes ⟨h1,h2,h3,h4,by simp only [I_i]; omega,by simp only [I_i,L_l]; omega⟩).trans (s2 c)) (show ((ls.L.length:Int) - ((k + 1:Nat):Int)).toNat < ((ls.L.length:Int) - i.I).toNat by omega)
 ·cases h
theorem ok22 (n:Nat):FnOK C (n + 4) 22 (mkF s22 G22):=by
 refine fn_of hC (sp:=sp22) (lp:=lp22) ⟨ok50 (n + 2),ok18 n,ok37 (n + 1),trivial⟩ (by kernel_rfl) [4,9] (by kernel_rfl) (by kernel_rfl) (fun k hk L hL=>by
  simp only [List.mem_cons,List.not_mem_nil,or_false] at hk
  rcases hk with rfl | rfl <;> cases hL
  ·exact ok22_4 n
  ·exact ok22_9 n) fun ds rr h=>?_
 unfold G22 at h
 split at h
 ·rename_i cs ls m
  obtain ⟨hp,h⟩:=need_some h
  rw [yes_iff] at hp
  refine (congrArg T.run (t22 cs ls m)).trans ?_
  rw [← h]
  simp only [Int.toNat_zero,Nat.sub_zero]
  unfold taskOk
  refine go_if (fun c=>?_) fun c=>go_if (fun c1=>?_) fun c1=>go_if (fun c2=>?_) fun c2=>go_not (fun c3=>by simp [c3]) fun c3=>?_
  ·have:within (cs.L.length:Int) 1 8 = false:=Bool.eq_false_iff.2 fun hh=>by have:=Lite.within_iff.1 hh; omega
   simp [this]
  ·have:within (cs.L.length:Int) 1 8 = false:=Bool.eq_false_iff.2 fun hh=>by have:=Lite.within_iff.1 hh; omega
   simp [this]
  ·have:¬ ls.L.length ≤ 8:=by omega
   simp [this]
  ·have e0:within (cs.L.length:Int) 1 8 = true:=Lite.within_iff.2 ⟨by omega,by omega⟩
   have e2:ls.L.length ≤ 8:=by omega
   refine go_yes ⟨hp.1,by omega,by omega,by omega⟩ (go_ite (fun c4=>go_yes ⟨by omega,surfs_few (by omega) c4,e2,hp.2,by omega,by omega⟩ (go_ite (fun c5=>?_) fun c5=>?_)) fun c4=>by simp [c4])
   ·simp [e0,e2,c3,c4,c5]
   ·simp [c5]
 ·cases h
theorem task_of {cs ls:List (List D)} (h:TaskP cs ls):(1 ≤ cs.length ∧ cs.length ≤ 8) ∧ ls.length ≤ 8 ∧ ∀ j,j < cs.length → compC (cs.getD j []) = true ∧ allFrom (loopAt ((lx (cs.getD j []) 0).length:Int) ls) 0 ls.length = true ∧ ∀ i,i < ls.length → DrvP (cs.getD j []) (rowAt ls i):=by
 obtain ⟨n,h⟩:=h
 simp only [taskOk,Bool.and_eq_true,decide_eq_true_eq,Lite.within_iff] at h
 obtain ⟨⟨⟨⟨h1,h2⟩,h3⟩,h4⟩,h5⟩:=h
 refine ⟨by omega,h2,fun j hj=>?_⟩
 have:=allFrom_iff.1 h4 j (Nat.zero_le _) (by omega)
 simp only [kindAt,Bool.and_eq_true,decide_eq_true_eq] at this
 refine ⟨this.1,by rw [this.2]; exact h5,fun i hi=>⟨this.1,?_⟩⟩
 have h6:=allFrom_iff.1 h5 i (Nat.zero_le _) (by omega)
 unfold loopAt at h6
 rw [this.2]
 exact h6
def wearOf (wl l:List (List D)) (i:Nat):Int:=ix (l.getD i []) 1 * ix (wl.getD (ix (l.getD i []) 0).toNat []) 0
theorem useFrom_rng {wl l:List (List D)}:∀ (k i:Nat),(∀ j,i ≤ j → j < i + k → 0 ≤ wearOf wl l j ∧ wearOf wl l j ≤ 100000000) → 0 ≤ useFrom wl l i k ∧ useFrom wl l i k ≤ 100000000 * k
 | 0,i,_=>by simp [useFrom]
 | k + 1,i,h=>by
   have h1:=h i (Nat.le_refl _) (by omega)
   have h2:=useFrom_rng k (i + 1) (fun j h3 h4=>h j (by omega) (by omega))
   simp only [useFrom]
   unfold wearOf at h1
   omega
theorem lastsFrom {dry wet wl:List (List D)} {loss:Int} {l:List (List D)}:∀ (k i:Nat) (w s:Int) (b:Bool),(∀ j,i ≤ j → j < i + k → 0 ≤ wearOf wl l j ∧ wearOf wl l j ≤ 100000000) → w ≤ 1000000 →
    (driveFrom dry wet wl loss l i k w s b).2.2 = (b && decide (w + useFrom wl l i k ≤ 1000000))
 | 0,i,w,s,b,_,hw=>by simp [driveFrom,useFrom,hw]
 | k + 1,i,w,s,b,h,hw=>by
   have h1:=h i (Nat.le_refl _) (by omega)
   have h2:=useFrom_rng k (i + 1) (fun j h3 h4=>h j (by omega) (by omega))
   simp only [driveFrom,useFrom]
   rw [lastsFrom k (i + 1) _ _ _ (fun j h3 h4=>h j (by omega) (by omega)) (by split <;> omega)]
   have e:stepWear wl w (l.getD i []) = w + wearOf wl l i:=rfl
   rw [e]
   have e2:w + (ix (l.getD i []) 1 * ix (wl.getD (ix (l.getD i []) 0).toNat []) 0 + useFrom wl l (i + 1) k) = w + wearOf wl l i + useFrom wl l (i + 1) k:=by rw [← Int.add_assoc]; rfl
   simp only [e2]
   by_cases hc:w + wearOf wl l i > 1000000
   ·have:¬ w + wearOf wl l i + useFrom wl l (i + 1) k ≤ 1000000:=by omega
    simp [hc,this]
   ·simp only [hc,if_false]
theorem drv_use {c:List D} {l:List (List D)} (h:DrvP c l) {w:Int} (h1:w ≤ 1000000):(0 ≤ useFrom (lx c 2) l 0 l.length ∧ useFrom (lx c 2) l 0 l.length ≤ 3000000000) ∧ (drv c l w).2.2 = decide (w + useFrom (lx c 2) l 0 l.length ≤ 1000000):=by
 have hinc:∀ j,0 ≤ j → j < 0 + l.length → 0 ≤ wearOf (lx c 2) l j ∧ wearOf (lx c 2) l j ≤ 100000000:=fun j _ hj=>(step_of h (w:=0) ⟨by omega,by omega⟩ (by omega:j < l.length)).2.2.2.2.2.2.2.2
 have hu:=useFrom_rng l.length 0 hinc
 have hl:=(stretch_of h.2).1
 refine ⟨by omega,?_⟩
 unfold drv drive
 rw [lastsFrom _ _ _ _ _ hinc h1,Bool.true_and]
theorem ok41_4 (n:Nat) (hA:AllOK C n sp41):LoopSim C n 41 (loopOf C.P 41 4) (mkL l41_4 G41_4):=by
 refine loop_of hC (sp:=sp41) (lp:=lp41) hA [] (by kernel_rfl) rfl (fun k hk=>by cases hk) (by kernel_rfl) (fun ds=>(((ds.getD 4 default).L.length:Int) - (ds.getD 2 default).I).toNat) fun ds rr h=>?_
 unfold G41_4 at h
 split at h
 ·rename_i cs ls i sets comps p
  obtain ⟨hp,h⟩:=need_some h
  rw [yes_iff] at hp
  obtain ⟨h1,h2,h3,h4⟩:=hp
  refine ⟨by rw [fuelC]; simp; omega,?_⟩
  rw [show roundT C (mkTab sp41 lp41) 41 (loopOf C.P 41 4) l41_4 [cs,ls,i,sets,comps,p] = _ from t41_4 cs ls i sets comps p]
  obtain ⟨k,hk⟩:∃ k:Nat,i.I = k:=⟨i.I.toNat,by omega⟩
  have w0:IntKind.i64.wrap ((cs.L.length:Int) - 1) = (cs.L.length:Int) - 1:=wrap_id (by omega) (by omega)
  simp only [hk,w0,Int.toNat_natCast] at h h4 ⊢
  refine rd_if (fun hlt=>?_) fun hge=>rd_out (all_end h (by omega))
  have hkl:k < comps.L.length:=by omega
  obtain ⟨s1,s2⟩:=all_step h hkl
  refine rd_dec ⟨by omega,by omega⟩ (rd_not (fun c=>rd_out (s1 c)) fun c=>?_)
  rw [wrap_succ (by omega)]
  exact rd_again ((need_yes ⟨h1,h2,by simp only [I_i]; omega,by simp only [I_i,L_l]; omega⟩).trans (s2 c)) (show ((comps.L.length:Int) - ((k + 1:Nat):Int)).toNat < ((comps.L.length:Int) - i.I).toNat by omega)
 ·cases h
theorem ok41_11 (n:Nat) (hA:AllOK C n sp41):LoopSim C n 41 (loopOf C.P 41 11) (mkL l41_11 G41_11):=by
 refine loop_of hC (sp:=sp41) (lp:=lp41) hA [] (by kernel_rfl) rfl (fun k hk=>by cases hk) (by kernel_rfl) (fun ds=>(((ds.getD 1 default).L.length:Int) - (ds.getD 5 default).I).toNat) fun ds rr h=>?_
 unfold G41_11 at h
 split at h
 ·rename_i cs ls used loss m i sets comps p row
  obtain ⟨hp,h⟩:=need_some h
  rw [yes_iff] at hp
  obtain ⟨h1,h2,h3,h4,h5,h6,h7,h8,h9,h10,h11,h12,h13,h14⟩:=hp
  obtain ⟨k1,k2,k3⟩:=task_of h1
  refine ⟨by rw [fuelC]; simp; omega,?_⟩
  rw [show roundT C (mkTab sp41 lp41) 41 (loopOf C.P 41 11) l41_11 [cs,ls,used,loss,m,i,sets,comps,p,row] = _ from t41_11 cs ls used loss m i sets comps p row]
  obtain ⟨k,hk⟩:∃ k:Nat,i.I = k:=⟨i.I.toNat,by omega⟩
  generalize hW:ints row.L = W at *
  rw [h12]
  have hlen:(mkI W).length = comps.L.length:=by rw [len_mkI,h13]
  simp only [hk,h5,Int.toNat_natCast,ix_def,lx_def,ix_mkI,upd1,set_mkI,Nat.zero_add,Nat.reduceAdd] at h h7 h9 h11 ⊢
  refine rd_if (fun hlt=>?_) fun hge=>?_
  ·have hkl:k < ls.L.length:=by omega
   rw [show ls.L.length - k = (ls.L.length - (k + 1)) + 1 by omega] at h
   simp only [refFrom] at h
   refine rd_dec ⟨by omega,by omega⟩ ?_
   generalize hs:ix (sets.L.getD k []) 0 = s at *
   refine rd_if (fun c1=>?_) fun c1=>rd_if (fun c2=>?_) fun c2=>rd_if (fun c3=>?_) fun c3=>?_
   ·rw [if_neg (by omega)] at h; exact rd_out h
   ·rw [if_neg (by omega)] at h; exact rd_out h
   ·rw [if_neg (by omega)] at h; exact rd_out h
   ·obtain ⟨x,hx⟩:∃ x:Nat,s = x:=⟨s.toNat,by omega⟩
    subst hx
    have hxl:x < comps.L.length:=by omega
    have hc:=allFrom_iff.1 h4 x (Nat.zero_le _) (by omega)
    unfold compAt at hc
    rw [Lite.within_iff] at hc
    have hD:=(k3 (ix (comps.L.getD x []) 0).toNat (by omega)).2.2 k hkl
    have hWx:=h14 x hxl
    have hdr:=drv_rng hD hWx.1 hWx.2
    obtain ⟨hu1,hu2⟩:=drv_use hD hWx.2
    simp only [Int.toNat_natCast]
    simp only [kindOfSet,Int.toNat_natCast] at h
    have er:(((ls.L.getD k []).getD 0 default).L) = rowAt ls.L k:=rfl
    have er2:lx (ls.L.getD k []) 0 = rowAt ls.L k:=rfl
    have ed:∀ w,drive (lx (cs.L.getD (ix (comps.L.getD x []) 0).toNat []) 0) (lx (cs.L.getD (ix (comps.L.getD x []) 0).toNat []) 1) (lx (cs.L.getD (ix (comps.L.getD x []) 0).toNat []) 2) (ix (cs.L.getD (ix (comps.L.getD x []) 0).toNat []) 3) (rowAt ls.L k) w = drv (cs.L.getD (ix (comps.L.getD x []) 0).toNat []) (rowAt ls.L k) w:=fun _=>rfl
    simp only [er2,ed]
    obtain ⟨c,hcc⟩:∃ c,cs.L.getD (ix (comps.L.getD x []) 0).toNat [] = c:=⟨_,rfl⟩
    simp only [hcc] at h hD hdr hu1 hu2 ⊢
    have w1:IntKind.i64.wrap (W.getD x 0 + useFrom (lx c 2) (rowAt ls.L k) 0 (rowAt ls.L k).length) = W.getD x 0 + useFrom (lx c 2) (rowAt ls.L k) 0 (rowAt ls.L k).length:=wrap_id (by omega) (by omega)
    have w2:IntKind.i64.wrap (loss.I + (drv c (rowAt ls.L k) (W.getD x 0)).2.1) = loss.I + (drv c (rowAt ls.L k) (W.getD x 0)).2.1:=wrap_id (by omega) (by omega)
    have w3:IntKind.i64.wrap (used.I + 1) = used.I + 1:=wrap_id (by omega) (by omega)
    rw [w1,w2,w3,wrap_succ (by omega)]
    have hW':∀ j,j < comps.L.length → 0 ≤ (W.set x (drv c (rowAt ls.L k) (W.getD x 0)).1).getD j 0 ∧ (W.set x (drv c (rowAt ls.L k) (W.getD x 0)).1).getD j 0 ≤ 1000000:=fun j hj=>by
     rw [getD_set (by omega)]
     split
     ·exact hdr.1
     ·exact h14 j hj
    have again:∀ u:Int,0 ≤ u → u ≤ (k:Int) + 1 → (T.ite (refFrom cs.L ls.L sets.L comps.L (k + 1) (ls.L.length - (k + 1)) u (loss.I + (drv c (rowAt ls.L k) (W.getD x 0)).2.1) (W.set x (drv c (rowAt ls.L k) (W.getD x 0)).1)).2.2
        (.leaf (.exit 2,[.i (refFrom cs.L ls.L sets.L comps.L (k + 1) (ls.L.length - (k + 1)) u (loss.I + (drv c (rowAt ls.L k) (W.getD x 0)).2.1) (W.set x (drv c (rowAt ls.L k) (W.getD x 0)).1)).1,.i (refFrom cs.L ls.L sets.L comps.L (k + 1) (ls.L.length - (k + 1)) u (loss.I + (drv c (rowAt ls.L k) (W.getD x 0)).2.1) (W.set x (drv c (rowAt ls.L k) (W.getD x 0)).1)).2.1,.l sets.L,.l comps.L,.i p.I])) (.leaf (.ret,[.i 0,.b false]))).run = some rr →
        RdOK G41_11 (fun ds=>(((ds.getD 1 default).L.length:Int) - (ds.getD 5 default).I).toNat) [cs,ls,used,loss,m,i,sets,comps,p,row] rr
        (T.leaf (Rd.again [.l cs.L,.l ls.L,.i u,.i (loss.I + (drv c (rowAt ls.L k) (W.getD x 0)).2.1),.i comps.L.length,.i (k + 1:Nat),.l sets.L,.l comps.L,.i p.I,.l (mkI (W.set x (drv c (rowAt ls.L k) (W.getD x 0)).1))])).run:=by
     intro u hu0 hu3 hh
     refine rd_again ?_ (show ((ls.L.length:Int) - ((k + 1:Nat):Int)).toNat < ((ls.L.length:Int) - i.I).toNat by omega)
     refine (need_yes ⟨h1,h2,h3,h4,rfl,by simp only [I_i]; omega,by simp only [I_i,L_l]; omega,by simp only [I_i]; omega,by simp only [I_i]; omega,by simp only [I_i]; omega,by simp only [I_i]; omega,by simp only [L_l,ints_mkI],by simp only [L_l,ints_mkI,List.length_set]; exact h13,by simp only [L_l,ints_mkI]; exact hW'⟩).trans ?_
     simp only [L_l,I_i,ints_mkI,Int.toNat_natCast]
     exact hh
    have sz:(mkI W).length = comps.L.length:=hlen
    refine rd_ite (fun c4=>?_) fun c4=>?_
    ·have c4':(x:Int) = used.I:=by simpa using c4
     refine rd_dec ⟨by omega,by omega⟩ (rd_dec ⟨by omega,by omega⟩ (rd_dec ⟨by omega,by omega⟩ (rd_dec (by omega) (rd_dec ⟨by omega,by omega⟩ (rd_yes hD (rd_if (fun c5=>?_) fun c5=>?_))))))
     ·rw [if_neg (by omega)] at h; exact rd_out h
     ·rw [if_pos ⟨by omega,by omega,by omega,by omega⟩] at h
      simp only [if_pos c4'] at h
      exact rd_dec ⟨by omega,by omega⟩ (rd_dec ⟨by omega,by omega⟩ (rd_dec (by omega) (rd_yes ⟨hD,hWx.1,hWx.2⟩ (rd_dec ⟨by omega,by omega⟩ (rd_dec (by omega) (again _ (by omega) (by omega) h))))))
    ·have c4':¬ (x:Int) = used.I:=by simpa using c4
     refine rd_dec ⟨by omega,by omega⟩ (rd_dec ⟨by omega,by omega⟩ (rd_dec ⟨by omega,by omega⟩ (rd_dec (by omega) (rd_dec ⟨by omega,by omega⟩ (rd_yes hD (rd_if (fun c5=>?_) fun c5=>?_))))))
     ·rw [if_neg (by omega)] at h; exact rd_out h
     ·rw [if_pos ⟨by omega,by omega,by omega,by omega⟩] at h
      simp only [if_neg c4'] at h
      exact rd_dec ⟨by omega,by omega⟩ (rd_dec ⟨by omega,by omega⟩ (rd_dec (by omega) (rd_yes ⟨hD,hWx.1,hWx.2⟩ (rd_dec ⟨by omega,by omega⟩ (rd_dec (by omega) (again _ (by omega) (by omega) h))))))
  ·rw [show ls.L.length - k = 0 by omega] at h
   exact rd_out h
 ·cases h
theorem allS (p:Nat → Bool) (i k:Nat):allFrom p i (k + 1) = (p i && allFrom p (i + 1) k):=rfl
def sumR (f:Nat → Int):Nat → Nat → Int
 | _,0=>0
 | i,k + 1=>f i + sumR f (i + 1) k
theorem sumR_add {f g h:Nat → Int}:∀ k i,(∀ j,i ≤ j → j < i + k → h j = f j + g j) → sumR h i k = sumR f i k + sumR g i k
 | 0,_,_=>rfl
 | k + 1,i,hh=>by
   simp only [sumR]
   rw [sumR_add k (i + 1) (fun j h1 h2=>hh j (by omega) (by omega)),hh i (Nat.le_refl _) (by omega)]
   omega
theorem sumR_none {a:Nat} {v:Int}:∀ k i,a < i → sumR (fun s=>if a = s then v else 0) i k = 0
 | 0,_,_=>rfl
 | k + 1,i,h=>by
   simp only [sumR]
   rw [sumR_none k (i + 1) (by omega),if_neg (by omega)]
   omega
theorem sumR_single {a:Nat} {v:Int}:∀ k i,i ≤ a → a < i + k → sumR (fun s=>if a = s then v else 0) i k = v
 | 0,_,_,_=>by omega
 | k + 1,i,h1,h2=>by
   simp only [sumR]
   by_cases h:a = i
   ·subst h
    rw [sumR_none k (a + 1) (by omega),if_pos rfl]
    omega
   ·rw [sumR_single k (i + 1) (by omega) (by omega),if_neg h]
    omega
theorem sumR_zero:∀ k i,sumR (fun _=>0) i k = 0
 | 0,_=>rfl
 | k + 1,i=>by simp only [sumR,sumR_zero k (i + 1)]; omega
section
variable (cs ls sets comps:List (List D))
def setAt (i:Nat):Int:=ix (sets.getD i []) 0
def wearAt (s:Int):Nat → Int
 | 0=>0
 | i + 1=>if setAt sets i = s then (drv (kindOfSet cs comps s) (rowAt ls i) (wearAt s i)).1 else wearAt s i
def gainAt (i:Nat):Int:=(drv (kindOfSet cs comps (setAt sets i)) (rowAt ls i) (wearAt cs ls sets comps (setAt sets i) i)).2.1
def lastAt (i:Nat):Bool:=(drv (kindOfSet cs comps (setAt sets i)) (rowAt ls i) (wearAt cs ls sets comps (setAt sets i) i)).2.2
def gainOf (s:Int) (i:Nat):Int:=if setAt sets i = s then gainAt cs ls sets comps i else 0
def lastOf (s:Int) (i:Nat):Bool:=!decide (setAt sets i = s) || lastAt cs ls sets comps i
theorem used_eq (s:Int):∀ k i acc,usedFrom (kindOfSet cs comps s) ls sets s i k (wearAt cs ls sets comps s i) acc = if allFrom (lastOf cs ls sets comps s) i k then (acc + sumR (gainOf cs ls sets comps s) i k,true) else (0,false)
 | 0,i,acc=>by simp [usedFrom,allFrom,sumR]
 | k + 1,i,acc=>by
   simp only [usedFrom,sumR]
   rw [allS]
   by_cases hs:setAt sets i = s
   ·have hs':ix (sets.getD i []) 0 = s:=hs
    rw [if_pos hs']
    have e1:lastOf cs ls sets comps s i = (drv (kindOfSet cs comps s) (rowAt ls i) (wearAt cs ls sets comps s i)).2.2:=by unfold lastOf lastAt; rw [hs]; simp
    have e2:gainOf cs ls sets comps s i = (drv (kindOfSet cs comps s) (rowAt ls i) (wearAt cs ls sets comps s i)).2.1:=by unfold gainOf gainAt; rw [if_pos hs,hs]
    have e3:wearAt cs ls sets comps s (i + 1) = (drv (kindOfSet cs comps s) (rowAt ls i) (wearAt cs ls sets comps s i)).1:=by simp only [wearAt,if_pos hs]
    have:=used_eq s k (i + 1) (acc + (drv (kindOfSet cs comps s) (rowAt ls i) (wearAt cs ls sets comps s i)).2.1)
    rw [e3] at this
    rw [this,e1,e2]
    cases (drv (kindOfSet cs comps s) (rowAt ls i) (wearAt cs ls sets comps s i)).2.2 with
    | true=>simp only [if_true,Bool.true_and,Int.add_assoc]
    | false=>simp only [Bool.false_and,Bool.false_eq_true,if_false]
   ·have hs':¬ ix (sets.getD i []) 0 = s:=hs
    rw [if_neg hs']
    have e1:lastOf cs ls sets comps s i = true:=by unfold lastOf; simp [hs]
    have e2:gainOf cs ls sets comps s i = 0:=by unfold gainOf; rw [if_neg hs]
    have e3:wearAt cs ls sets comps s (i + 1) = wearAt cs ls sets comps s i:=by simp only [wearAt,if_neg hs]
    have:=used_eq s k (i + 1) acc
    rw [e3] at this
    rw [this,e1,e2,Bool.true_and]
    simp only [Int.zero_add]
theorem sums_eq:∀ k i acc,(∀ j,i ≤ j → j < i + k → True) → sumsFrom cs ls sets comps i k acc = if allFrom (fun j=>compAt cs comps j && allFrom (lastOf cs ls sets comps j) 0 ls.length) i k then (acc + sumR (fun j=>sumR (gainOf cs ls sets comps j) 0 ls.length) i k,true) else (0,false)
 | 0,i,acc,_=>by simp [sumsFrom,allFrom,sumR]
 | k + 1, i,acc,_=>by
   have hu:usedAll (cs.getD (ix (comps.getD i []) 0).toNat []) ls sets i = if allFrom (lastOf cs ls sets comps i) 0 ls.length then (0 + sumR (gainOf cs ls sets comps i) 0 ls.length,true) else (0,false):=by
    have:=used_eq cs ls sets comps (i:Int) ls.length 0 0
    exact this
   simp only [sumsFrom,sumR,hu]
   rw [allS]
   have e:compAt cs comps i = within (ix (comps.getD i []) 0) 0 (cs.length - 1):=rfl
   rw [← e]
   cases compAt cs comps i with
   | false=>simp
   | true=>
     cases allFrom (lastOf cs ls sets comps i) 0 ls.length with
     | false=>simp
     | true=>
       simp only [if_true,Bool.and_self,Bool.true_and]
       rw [sums_eq k (i + 1) _ (fun _ _ _=>trivial)]
       simp only [Int.zero_add,Int.add_assoc]
variable {cs ls sets comps}
theorem wear_rng (ht:TaskP cs ls) (hc:allFrom (compAt cs comps) 0 comps.length = true) {s:Nat} (hs:s < comps.length):∀ i,i ≤ ls.length → 0 ≤ wearAt cs ls sets comps s i ∧ wearAt cs ls sets comps s i ≤ 1000000
 | 0,_=>by simp [wearAt]
 | i + 1,hi=>by
   have ih:=wear_rng ht hc hs i (by omega)
   have h1:=allFrom_iff.1 hc s (Nat.zero_le _) (by omega)
   unfold compAt at h1
   rw [Lite.within_iff] at h1
   have hD:=((task_of ht).2.2 (ix (comps.getD s []) 0).toNat (by omega)).2.2 i (by omega)
   simp only [wearAt]
   split
   ·have:=drv_rng hD ih.1 ih.2
    exact this.1
   ·exact ih
theorem ref_eq (ht:TaskP cs ls) (hc:allFrom (compAt cs comps) 0 comps.length = true):∀ k i used loss W,i + k ≤ ls.length → W.length = comps.length → (∀ s,s < comps.length → W.getD s 0 = wearAt cs ls sets comps s i) →
    refFrom cs ls sets comps i k used loss W = if (countFrom sets i k used).2 && allFrom (fun j=>decide (setAt sets j < comps.length) && lastAt cs ls sets comps j) i k then ((countFrom sets i k used).1,loss + sumR (gainAt cs ls sets comps) i k,true) else (0,0,false)
 | 0,i,used,loss,W,_,_,_=>by simp [refFrom,countFrom,allFrom,sumR]
 | k + 1, i,used,loss,W,hik,hl,hW=>by
   simp only [refFrom,countFrom,sumR]
   rw [allS]
   have es:ix (sets.getD i []) 0 = setAt sets i:=rfl
   simp only [es]
   by_cases hb:0 ≤ setAt sets i ∧ setAt sets i ≤ used
   ·have hw:within (setAt sets i) 0 used = true:=Lite.within_iff.2 hb
    rw [hw]
    simp only [if_true]
    by_cases hm:setAt sets i < comps.length
    ·obtain ⟨x,hx⟩:∃ x:Nat,setAt sets i = x:=⟨(setAt sets i).toNat,by omega⟩
     have hxl:x < comps.length:=by omega
     have h1:=allFrom_iff.1 hc x (Nat.zero_le _) (by omega)
     unfold compAt at h1
     rw [Lite.within_iff] at h1
     have hD:=((task_of ht).2.2 (ix (comps.getD x []) 0).toNat (by omega)).2.2 i (by omega)
     have hwr:=wear_rng (sets:=sets) ht hc hxl i (by omega)
     obtain ⟨-,hu2⟩:=drv_use hD hwr.2
     have ek:kindOfSet cs comps (setAt sets i) = cs.getD (ix (comps.getD x []) 0).toNat []:=by unfold kindOfSet; rw [hx,Int.toNat_natCast]
     have eW:W.getD (setAt sets i).toNat 0 = wearAt cs ls sets comps x i:=by rw [hx,Int.toNat_natCast]; exact hW x hxl
     have el:lastAt cs ls sets comps i = decide (wearAt cs ls sets comps x i + useFrom (lx (cs.getD (ix (comps.getD x []) 0).toNat []) 2) (rowAt ls i) 0 (rowAt ls i).length ≤ 1000000):=by
      unfold lastAt; rw [ek,hx]; exact hu2
     have eg:gainAt cs ls sets comps i = (drv (cs.getD (ix (comps.getD x []) 0).toNat []) (rowAt ls i) (wearAt cs ls sets comps x i)).2.1:=by unfold gainAt; rw [ek,hx]
     rw [ek,eW,el,eg]
     have emax:(if setAt sets i = used then used + 1 else used) = max used (setAt sets i + 1):=by split <;> omega
     rw [emax]
     by_cases hlast:wearAt cs ls sets comps x i + useFrom (lx (cs.getD (ix (comps.getD x []) 0).toNat []) 2) (rowAt ls i) 0 (rowAt ls i).length ≤ 1000000
     ·rw [if_pos ⟨hb.1,hb.2,hm,hlast⟩]
      rw [decide_eq_true hlast,decide_eq_true hm,Bool.and_self,Bool.true_and]
      rw [ref_eq ht hc k (i + 1) _ _ _ (by omega) (by rw [List.length_set]; exact hl) (fun s hs=>by
       rw [hx,Int.toNat_natCast,getD_set (by omega)]
       simp only [wearAt]
       by_cases hsx:s = x
       ·subst hsx
        rw [if_pos rfl,if_pos hx]
        unfold kindOfSet
        rw [Int.toNat_natCast]
       ·rw [if_neg hsx,if_neg (by omega)]
        exact hW s hs)]
      simp only [Int.add_assoc]
     ·rw [if_neg (fun hh=>hlast hh.2.2.2),decide_eq_false hlast]
      simp
    ·rw [if_neg (fun hh=>hm hh.2.2.1),decide_eq_false hm]
     simp
   ·have hw:within (setAt sets i) 0 used = false:=Bool.eq_false_iff.2 fun hh=>hb (Lite.within_iff.1 hh)
    rw [hw,if_neg (fun hh=>hb ⟨hh.1,hh.2.1⟩)]
    simp
theorem count_lt:∀ k i n,(countFrom sets i k n).2 = true → n ≤ (countFrom sets i k n).1 ∧ ∀ j,i ≤ j → j < i + k → 0 ≤ setAt sets j ∧ setAt sets j < (countFrom sets i k n).1
 | 0,i,n,_=>⟨Int.le_refl _,fun j h1 h2=>by omega⟩
 | k + 1,i,n,h=>by
   simp only [countFrom] at h ⊢
   split at h
   ·rename_i c
    have c':=Lite.within_iff.1 c
    rw [if_pos c]
    obtain ⟨h1,h2⟩:=count_lt k (i + 1) _ h
    refine ⟨by omega,fun j h3 h4=>?_⟩
    by_cases hj:j = i
    ·subst hj
     unfold setAt at h2 ⊢
     omega
    ·exact h2 j (by omega) (by omega)
   ·cases h
theorem tot_eq {m:Nat}:∀ k i,(∀ j,i ≤ j → j < i + k → 0 ≤ setAt sets j ∧ setAt sets j < m) → sumR (fun s=>sumR (gainOf cs ls sets comps s) i k) 0 m = sumR (gainAt cs ls sets comps) i k
 | 0,i,_=>by simp only [sumR,sumR_zero]
 | k + 1,i,h=>by
   obtain ⟨h1,h2⟩:=h i (Nat.le_refl _) (by omega)
   obtain ⟨x,hx⟩:∃ x:Nat,setAt sets i = x:=⟨(setAt sets i).toNat,by omega⟩
   have ih:=tot_eq k (i + 1) (fun j a b=>h j (by omega) (by omega))
   have e:=sumR_add (f:=fun s=>if x = s then gainAt cs ls sets comps i else 0) (g:=fun s=>sumR (gainOf cs ls sets comps s) (i + 1) k) (h:=fun s=>sumR (gainOf cs ls sets comps s) i (k + 1)) m 0 (fun s _ _=>by
    simp only [sumR]
    congr 1
    unfold gainOf
    rw [hx]
    by_cases hxs:x = s
    ·rw [if_pos hxs,if_pos (by rw [hxs])]
    ·rw [if_neg hxs,if_neg (by omega)])
   rw [e,sumR_single m 0 (Nat.zero_le _) (by omega),ih]
   rfl
theorem poss_eq {n:Int} (ht:taskOk cs ls n = true):possC cs ls sets comps n = possR cs ls sets comps n:=by
 have hT:TaskP cs ls:=⟨n,ht⟩
 unfold possC possR refAll
 rw [ht,Bool.true_and]
 by_cases h1:(comps.length:Int) ≤ n
 case neg=>simp [h1]
 by_cases h2:sets.length = ls.length
 case neg=>simp [h2]
 rw [decide_eq_true h1,decide_eq_true h2,Bool.and_self,Bool.true_and,Bool.true_and,h2]
 rw [sums_eq cs ls sets comps _ _ _ (fun _ _ _=>trivial)]
 cases hc:allFrom (compAt cs comps) 0 comps.length with
 | false=>
   have hf:allFrom (fun j=>compAt cs comps j && allFrom (lastOf cs ls sets comps j) 0 ls.length) 0 comps.length = false:=by
    rw [allFrom_false] at hc ⊢
    obtain ⟨j,a,b,c⟩:=hc
    exact ⟨j,a,b,by rw [c,Bool.false_and]⟩
   rw [hf]
   simp
 | true =>
   rw [ref_eq hT hc _ _ _ _ _ (by omega) (by simp) (fun s hs=>by
    simp only [wearAt,List.getD_eq_getElem?_getD,List.getElem?_replicate]; split <;> rfl)]
   rw [Bool.true_and]
   cases hk:(countFrom sets 0 ls.length 0).2 with
   | false=>simp
   | true =>
     by_cases hm:(countFrom sets 0 ls.length 0).1 = comps.length
     ·obtain ⟨-,hlt⟩:=count_lt _ _ _ hk
      rw [hm] at hlt
      have e1:allFrom (fun j=>compAt cs comps j && allFrom (lastOf cs ls sets comps j) 0 ls.length) 0 comps.length = allFrom (fun j=>decide (setAt sets j < comps.length) && lastAt cs ls sets comps j) 0 ls.length:=by
       rw [Bool.eq_iff_iff,allFrom_iff,allFrom_iff]
       refine ⟨fun hh j a b=>?_,fun hh j a b=>?_⟩
       ·obtain ⟨x1,x2⟩:=hlt j a b
        obtain ⟨x,hx⟩:∃ x:Nat,setAt sets j = x:=⟨(setAt sets j).toNat,by omega⟩
        have:=hh x (Nat.zero_le _) (by omega)
        rw [Bool.and_eq_true,allFrom_iff] at this
        have:=this.2 j a b
        unfold lastOf at this
        rw [hx,decide_eq_true rfl,Bool.not_true,Bool.false_or] at this
        rw [this,decide_eq_true x2,Bool.and_self]
       ·rw [Bool.and_eq_true,allFrom_iff]
        refine ⟨allFrom_iff.1 hc j a b,fun q a b=>?_⟩
        have:=hh q a b
        rw [Bool.and_eq_true] at this
        unfold lastOf
        rw [this.2,Bool.or_true]
      rw [e1,hm,tot_eq _ _ hlt]
      simp only [decide_true,Bool.and_self,Bool.true_and,if_true]
      cases allFrom (fun j=>decide (setAt sets j < comps.length) && lastAt cs ls sets comps j) 0 ls.length with
      | false=>simp
      | true=>simp
     ·simp only [Bool.true_and]
      rw [decide_eq_false hm]
      simp only [Bool.false_eq_true,if_false]
      cases allFrom (fun j=>decide (setAt sets j < comps.length) && lastAt cs ls sets comps j) 0 ls.length with
      | false=>simp
      | true=>simp [hm]
end
set_option maxRecDepth 100000 in
theorem ok41 (n:Nat) (hA:AllOK C n sp41):FnOK C (n + 1) 41 (mkF s41 G41):=by
 refine fn_of hC (sp:=sp41) (lp:=lp41) hA (by kernel_rfl) [4,11] (by kernel_rfl) (by kernel_rfl) (fun k hk L hL=>by
  simp only [List.mem_cons,List.not_mem_nil,or_false] at hk
  rcases hk with rfl | rfl <;> cases hL
  ·exact ok41_4 n hA
  ·exact ok41_11 n hA) fun ds rr h=>?_
 unfold G41 at h
 split at h
 ·rename_i cs ls m sets comps p
  obtain ⟨hp,h⟩:=need_some h
  rw [yes_iff] at hp
  have hT:TaskP cs.L ls.L:=⟨_,hp⟩
  obtain ⟨k1,k2,k3⟩:=task_of hT
  have hm:1 ≤ m.I ∧ m.I ≤ 8:=by
   simp only [taskOk,Bool.and_eq_true,Lite.within_iff] at hp
   exact hp.1.1.2
  refine (congrArg T.run (t41 cs ls m sets comps p)).trans ?_
  rw [← h]
  have e0:(mkI (List.replicate comps.L.length 0)).length = comps.L.length:=by rw [len_mkI,List.length_replicate]
  simp only [Int.toNat_natCast,Int.toNat_zero,Nat.sub_zero,zero_mkI,e0,ints_mkI]
  unfold possR refAll
  refine go_if (fun c1=>?_) fun c1=>go_ite (fun c2=>?_) fun c2=>?_
  ·have:¬ (comps.L.length:Int) ≤ m.I:=by omega
   simp [this]
  ·have:¬ sets.L.length = ls.L.length:=fun hh=>ne_of_bne c2 (by rw [hh])
   simp [this]
  ·have e1:(comps.L.length:Int) ≤ m.I:=by omega
   have e2:sets.L.length = ls.L.length:=by have:=eq_of_bne c2; omega
   refine go_yes ⟨by omega,by omega,by omega,by omega⟩ (go_ite (fun c3=>go_dec ⟨by omega,by trivial,by omega,by rw [bytes3]; omega⟩ (go_yes ⟨hT,e2,by omega,c3,by trivial,by omega,by omega,by omega,by omega,by omega,by omega,by trivial,by simp,fun j hj=>by
    simp only [List.getD_eq_getElem?_getD,List.getElem?_replicate,if_pos hj,Option.getD_some]; omega⟩ (go_ite (fun c4=>go_ite (fun c5=>?_) fun c5=>?_) fun c4=>?_))) fun c3=>by simp [c3])
   ·have:=ne_of_bne c5
    simp [this]
   ·have:=eq_of_bne c5
    simp [c3,c4,e1,e2,this]
   ·simp [c4]
 ·cases h
end Go.Proofs.Ytlofnkkokcihnaa
