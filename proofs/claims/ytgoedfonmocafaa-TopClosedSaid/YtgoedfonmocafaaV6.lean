/-
 What the claim top_closed rests on,part 6.
-/
import Derived.Test.YtgoedfonmocafaaV5
import Derived.Test.YtgoedfonmocafaaProg
namespace Go.Proofs.Ytgoedfonmocafaa
open Go.Lite
def annL:List (Nat × Nat × List Nat):=
 [(3,5,[2,3,4,5,6,7,8,15,16]),
  (3,13,[3,4,5,6,7,8,15,17,18]),
  (3,31,[3,5,6,7,8,15,17,23,25,26]),
  (4,5,[2,3,4,5,6,7,13,14]),
  (5,6,[1,2,3,4,5,6,13,15]),
  (5,24,[2,3,4,5,28,30,31]),
  (6,10,[2,3,4,7,9,10,11,12]),
  (6,26,[2,3,4,7,9,11,17,19,21]),
  (7,4,[1,2,3,4,5,6,13]),
  (7,14,[1,2,3,4,5,6,14,16]),
  (7,28,[2,3,4,5,6,14,17,18,19,23]),
  (7,35,[2,3,4,5,6,14,17,18,19,23,24,25]),
  (7,42,[2,3,5,19,29,30]),
  (9,4,[1,3]),
  (9,10,[1,5]),
  (11,3,[1,3,4]),
  (13,4,[3,9]),
  (14,8,[0,1,2,3,10,11,12,13,34,35,36]),
  (14,15,[0,1,2,3,10,11,16]),
  (14,21,[0,1,2,3,17,18,81,82,83]),
  (16,5,[1,3,4]),
  (18,11,[3,4,5,6,7,10,42]),
  (18,16,[3,4,5,6,10,68,69,70]),
  (18,23,[4,5,6,10,92,93,94]),
  (19,3,[1,3,4]),
  (20,10,[2,5,6,41,42]),
  (20,15,[2,5,6,60,61]),
  (20,20,[2,5,6,80,81]),
  (22,3,[1,2,3,7,8]),
  (24,4,[1,3]),
  (26,7,[1,2,3,5,16]),
  (27,4,[0,5]),
  (27,9,[0,5,6]),
  (28,6,[0,1,6,7,22,23]),
  (29,5,[0,1,2,9,23,24,25]),
  (31,4,[0,1,2,3,4,26,27,28]),
  (32,4,[1,3]),
  (35,5,[2,3,5,58,59,60]),
  (36,3,[2,3,4,5,8,9,10]),
  (37,8,[3,4,11,12,13]),
  (37,11,[3,4,11,12,13,14]),
  (37,14,[3,4,11,12,13,14,69,70,71]),
  (38,4,[1,19,20,21]),
  (38,10,[1,5,19,20,21,61,62,63]),
  (39,4,[1,3]),
  (39,10,[1,4,5]),
  (39,16,[1,4,7]),
  (42,4,[0,1,5]),
  (43,8,[4,5,6,8,9,32]),
  (48,3,[0,1,4,11,12,17,18,19]),
  (49,4,[0,1,5]),
  (49,9,[0,1,5,6]),
  (51,5,[1,3,28,29,30]),
  (51,14,[1,3,45,46,47]),
  (51,20,[1,3,81,82,83]),
  (52,4,[3,4,11,12,13]),
  (59,1,[0,2,3]),
  (60,1,[0,2,3]),
  (61,1,[0,2,3]),
  (65,3,[2,3,9,10,13,14,15]),
  (66,4,[1,3]),
  (66,12,[1,3,4,5]),
  (68,4,[0,1,5]),
  (69,5,[1,3,24,25,26]),
  (71,4,[2,3,6,7,8,24,25,26]),
  (71,9,[2,6,7,8,45,46]),
  (72,3,[2,3,6,7,15,16,17]),
  (73,2,[0,7,8,9]),
  (73,7,[0,3,4,7,8,9,25,26,27]),
  (75,2,[0,1,9,10,11]),
  (76,3,[0,3,4]),
  (77,3,[1,2,9,10,15,16,17]),
  (77,9,[1,2,9,10,12,15,16,17,30,31,32]),
  (78,3,[1,4,5,12,13,14]),
  (82,4,[3,5]),
  (84,3,[7,17,18,19]),
  (86,3,[2,3,4,5,9,19,20]),
  (86,9,[2,4,9,33,34]),
  (86,12,[2,4,9,11,33,34,40,41]),
  (86,17,[2,4,9,11,33,34,49,50,51]),
  (87,2,[1,2,8,9,10]),
  (90,4,[1,33,34,35]),
  (98,1,[0,1,9,10,11]),
  (100,2,[0,5,6,7]),
  (108,3,[5,12,13]),
  (109,7,[1,6,7,29,30]),
  (109,12,[1,6,7,8,9]),
  (111,2,[0,1,3,12,13,14]),
  (111,7,[0,1,3]),
  (111,9,[0,1,3,6]),
  (113,3,[1,5,15,16,17]),
  (114,3,[0,1,6,18,19]),
  (114,9,[0,1,6,8,30,31]),
  (114,12,[0,1,6,8,30,31,36,37,38]),
  (119,3,[2,4,6,7,15,16]),
  (119,9,[2,6,7,9]),
  (119,14,[2,6,7,9,51]),
  (121,1,[0,2,3,8,9,10]),
  (124,2,[0,4,16,17,18]),
  (124,6,[0,4,6,7,16,17,18,22,23]),
  (124,11,[0,4,7,16,17,18,34,35]),
  (127,2,[0,1,7,8]),
  (128,7,[2,9,10]),
  (129,2,[0,1,7,8]),
  (130,2,[0,1,7,8]),
  (131,2,[0,1,7,8]),
  (136,1,[0,2,3]),
  (142,4,[2,3,6]),
  (143,2,[0,1,7,8]),
  (144,2,[0,1,7,8]),
  (145,0,[0,1]),
  (174,2,[0,1,2,7])]
def annXL:List (Nat × Nat × Option Nat × List Nat):=
 [(3,5,some 0,[3,4,5,6,7,8,15]),
  (3,5,none,[14]),
  (3,13,some 2,[3,5,6,7,8,15,17]),
  (3,13,none,[14]),
  (3,31,some 4,[]),
  (3,31,none,[14]),
  (4,5,some 0,[3,4,5,6,7,13]),
  (4,5,none,[12]),
  (5,6,some 0,[2,3,4,5]),
  (5,6,none,[12]),
  (5,24,some 2,[2,3,4,28]),
  (5,24,none,[12]),
  (6,10,some 0,[2,3,4,7,9,10]),
  (6,10,none,[6]),
  (6,26,some 2,[]),
  (6,26,none,[6]),
  (7,4,some 0,[1,2,3,4,5,6]),
  (7,4,none,[12]),
  (7,14,some 2,[1,2,3,4,5,6,14]),
  (7,14,none,[12]),
  (7,28,some 4,[2,3,4,5,19]),
  (7,28,none,[12]),
  (7,35,some 6,[2,3,4,5,6,14,17,18,19,23]),
  (7,35,none,[12]),
  (7,42,some 8,[3,5,19,29]),
  (7,42,none,[12]),
  (9,4,some 0,[1]),
  (9,4,none,[2]),
  (9,10,some 2,[]),
  (9,10,none,[2]),
  (11,3,some 0,[3]),
  (11,3,none,[2]),
  (13,4,some 0,[]),
  (13,4,none,[8]),
  (14,8,some 0,[0,1,2,3,10,11]),
  (14,8,none,[8,9]),
  (14,15,some 2,[0,1,2,3,10,11]),
  (14,15,none,[8,9]),
  (14,21,some 4,[0,1,2,3,17]),
  (14,21,none,[8,9]),
  (16,5,some 0,[]),
  (16,5,none,[2]),
  (18,16,some 2,[3,4,5,6,10]),
  (18,16,none,[6,7]),
  (18,23,some 4,[6,10]),
  (18,23,none,[6,7]),
  (19,3,some 0,[3]),
  (19,3,none,[2]),
  (20,10,some 0,[2,5,6]),
  (20,10,none,[2,3]),
  (20,15,some 2,[2,5,6]),
  (20,15,none,[2,3]),
  (20,20,some 4,[2,6]),
  (20,20,none,[2,3]),
  (22,3,some 0,[7]),
  (22,3,none,[6]),
  (24,4,some 0,[1]),
  (24,4,none,[2]),
  (27,4,some 0,[]),
  (27,4,none,[4]),
  (27,9,some 2,[0,5]),
  (27,9,none,[4]),
  (28,6,some 0,[7]),
  (28,6,none,[4,5]),
  (29,5,some 0,[0,1,9]),
  (29,5,none,[6,7,8]),
  (31,4,some 0,[0,1,2,3,4]),
  (31,4,none,[10]),
  (32,4,some 0,[]),
  (32,4,none,[2]),
  (35,5,some 0,[]),
  (35,5,none,[4]),
  (36,3,some 0,[8,9]),
  (36,3,none,[8]),
  (37,8,some 0,[3,4,11,12,13]),
  (37,8,none,[8,9,10]),
  (37,11,some 2,[11,14]),
  (37,11,none,[8,9,10]),
  (37,14,some 3,[3,4,11,12,13,14]),
  (37,14,some 4,[3,4,11,12,13,14]),
  (37,14,none,[8,9,10]),
  (38,4,some 0,[]),
  (38,4,none,[2]),
  (38,10,some 2,[1,19,20,21]),
  (38,10,none,[2]),
  (39,4,some 0,[1]),
  (39,4,none,[2]),
  (39,10,some 2,[1,4]),
  (39,10,none,[2]),
  (39,16,some 4,[4]),
  (39,16,none,[2]),
  (42,4,some 0,[]),
  (42,4,none,[4]),
  (48,3,some 0,[]),
  (48,3,none,[10]),
  (49,4,some 0,[]),
  (49,4,none,[4]),
  (49,9,some 2,[0,1,5]),
  (49,9,none,[4]),
  (51,5,some 0,[1,3]),
  (51,5,none,[2]),
  (51,14,some 2,[1,3]),
  (51,14,none,[2]),
  (51,20,some 4,[]),
  (51,20,none,[2]),
  (52,4,some 0,[3,4]),
  (52,4,none,[2]),
  (59,1,some 0,[]),
  (59,1,none,[]),
  (60,1,some 0,[]),
  (60,1,none,[]),
  (61,1,some 0,[]),
  (61,1,none,[]),
  (65,3,some 0,[2,9,10]),
  (65,3,none,[6,7,8]),
  (66,4,some 0,[]),
  (66,4,none,[2]),
  (66,12,some 2,[1,3]),
  (66,12,none,[2]),
  (68,4,some 0,[]),
  (68,4,none,[4]),
  (69,5,some 0,[]),
  (69,5,none,[2]),
  (71,4,some 0,[2,6,7,8]),
  (71,4,none,[6,7]),
  (71,4,some 1000000,[6,7]),
  (71,9,some 2,[2,6,7,8]),
  (71,9,none,[6,7]),
  (71,9,some 1000000,[6,7]),
  (72,3,some 0,[6,7]),
  (72,3,none,[6]),
  (73,2,some 0,[0]),
  (73,2,none,[2]),
  (73,7,some 2,[0,7,8,9]),
  (73,7,none,[2]),
  (75,2,some 0,[0,1]),
  (75,2,none,[4]),
  (76,3,some 0,[3]),
  (76,3,none,[2]),
  (77,3,some 0,[1,9,10]),
  (77,3,none,[6,7,8]),
  (77,9,some 2,[1,2,9,10,12,15,16,17]),
  (77,9,none,[6,7,8]),
  (78,3,some 0,[4,5]),
  (78,3,none,[4]),
  (82,4,some 0,[]),
  (82,4,none,[4]),
  (84,3,some 0,[7]),
  (84,3,none,[6]),
  (86,3,some 0,[2,3,4,5,9]),
  (86,3,none,[8]),
  (86,9,some 2,[2,9]),
  (86,9,none,[8]),
  (86,12,some 4,[2,4,9,11,33,34]),
  (86,12,none,[8]),
  (86,17,some 6,[2,4,11,33,34]),
  (86,17,none,[8]),
  (87,2,some 0,[1]),
  (87,2,none,[4]),
  (90,4,some 0,[1]),
  (90,4,none,[2]),
  (98,1,some 0,[]),
  (98,1,none,[]),
  (100,2,some 0,[0]),
  (100,2,none,[2]),
  (108,3,some 0,[5]),
  (108,3,none,[4]),
  (109,7,some 0,[1,6,7]),
  (109,7,none,[2,3]),
  (109,12,some 2,[8]),
  (109,12,none,[2,3]),
  (111,2,some 0,[0,1,3]),
  (111,2,none,[]),
  (111,7,none,[]),
  (111,9,some 4,[0,1,3,6]),
  (111,9,none,[]),
  (113,3,some 0,[5]),
  (113,3,none,[4]),
  (114,3,some 0,[0,1,6]),
  (114,3,none,[4,5]),
  (114,9,some 2,[6,8]),
  (114,9,none,[4,5]),
  (114,12,some 4,[0,1,6,8,30,31]),
  (114,12,none,[4,5]),
  (119,3,some 0,[2,4,6,7]),
  (119,3,none,[6]),
  (119,9,some 2,[7]),
  (119,9,none,[6]),
  (121,1,some 0,[]),
  (121,1,none,[]),
  (124,2,some 0,[]),
  (124,2,none,[]),
  (124,6,some 2,[0,4,6,7,16,17,18]),
  (124,6,none,[]),
  (124,11,some 4,[0,4,16,17,18]),
  (124,11,none,[]),
  (127,2,some 0,[]),
  (127,2,none,[4]),
  (128,7,some 0,[9]),
  (128,7,none,[8]),
  (129,2,some 0,[]),
  (129,2,none,[4]),
  (130,2,some 0,[]),
  (130,2,none,[4]),
  (131,2,some 0,[]),
  (131,2,none,[4]),
  (136,1,some 0,[]),
  (136,1,none,[]),
  (142,4,some 0,[2,6]),
  (142,4,none,[4,5]),
  (143,2,some 0,[]),
  (143,2,none,[4]),
  (144,2,some 0,[]),
  (144,2,none,[4]),
  (145,0,some 0,[]),
  (145,0,none,[]),
  (174,2,some 0,[1,7]),
  (174,2,none,[6])]
def annOf (f:FuncId) (k:Nat):Option (List Nat):=(annL.find? fun x=>x.1 == f && x.2.1 == k).map (·.2.2)
def annXOf (f:FuncId) (k:Nat) (e:Option Nat):Option (List Nat):=(annXL.find? fun x=>x.1 == f && x.2.1 == k && x.2.2.1 == e).map (·.2.2.2)
def wrL:List (Nat × List Bool):=[(52,[true]),(54,[true]),(59,[true]),(60,[true]),(61,[true]),(91,[true,true]),(136,[true]),(70,[true]),(72,[false,false,true]),(114,[false,true]),(113,[true,true]),(164,[true]),(120,[true,true,true]),(141,[true,false]),(145,[true,false]),(170,[true,false]),(171,[true,false,false]),(172,[true]),(173,[true]),(174,[true,false,false]),(176,[true]),(36,[true,true,true,true])]
def wrOf (f:FuncId):List Bool:=((wrL.find? fun x=>x.1 == f).map (·.2)).getD []
def fzoOf (o:Oper):List Nat:=match o.op with
 | .buildSlice t _ ps=>if t = 79 then ps.toList.filterMap fun p=>match p.2 with
   | .tmp t=>some t
   | _=>none
   else []
 | _=>[]
noncomputable def C:Cfg:={ P:=Try.prog,ty:=tyOf Try.prog,wr:=wrOf,ann:=annOf,annX:=annXOf,fuel:=2 ^ 64,frz:=fun f=>[18,20,22,28,33,37,43].elem f,give:=fun f k=>f == 26 && k == 7,ext:=fun _=>none,alts:=fun t=>if t = 211 then [239,241,244] else [],fzo:=fzoOf }
theorem own:ownKnob Try.prog.godebug = none:=by kernel_rfl
theorem mixed:C.P.follows .mixedOrders = true:=by kernel_rfl
def fnOk (fn:Func):Bool:=match fn.body with
 | none=>true
 | some c => fn.name != "runtime.NumGoroutine" && regsOk c
theorem fnsOk:Try.prog.funcs.toList.all fnOk = true:=by kernel_rfl
theorem fn_ok {f : FuncId} {fn : Func} {c : Code} (h : Try.prog.funcs[f]? = some fn) (hb : fn.body = some c) : fn.name ≠ "runtime.NumGoroutine" ∧ regsOk c = true := by
 have hm:fn ∈ Try.prog.funcs:=Array.mem_of_getElem? h
 have:=List.all_eq_true.1 fnsOk fn (by simpa using hm)
 unfold fnOk at this
 rw [hb] at this
 simpa using this
theorem callsOk (n:Nat):CallOK C.P (callA C n):=by
 refine calls_ok (C:=C) ?_ ?_ mixed ?_ ?_ n
 ·intro t T h
  dsimp only [C] at h ⊢
  exact h
 ·intro f E h
  delta C at h
  cases h
 ·intro f fn h hb
  obtain ⟨c,hc⟩:=Option.isSome_iff_exists.1 hb
  exact (fn_ok h hc).1
 ·exact fun f fn c h hb=>(fn_ok h hb).2
noncomputable section
def pieceP (a b c d e:Int):Bool:=within a 1 5000 && within b (-1) 1 && within d 15 300 && within e 1 9 && (if b = 0 then decide (c = 0) else within c 5 2000)
def pieceAt (l:List (List D)) (k:Nat):Bool:=pieceP (ix (l.getD k []) 0) (ix (l.getD k []) 1) (ix (l.getD k []) 2) (ix (l.getD k []) 3) (ix (l.getD k []) 4)
def lenFrom (l:List (List D)):Nat → Nat → Int
 | _,0=>0
 | i,k + 1=>ix (l.getD i []) 0 + lenFrom l (i + 1) k
def lenR (l:List (List D)):Int:=lenFrom l 0 l.length
def riseAt (l:List (List D)) (k:Nat):Bool:=decide (k = 0) || decide (ix (l.getD (k - 1) []) 0 < ix (l.getD k []) 0)
def crestAt (n:Int) (l:List (List D)) (k:Nat):Bool:=within (ix (l.getD k []) 0) 0 n && within (ix (l.getD k []) 1) 1 3 && riseAt l k
def juncAt (n:Int) (l:List (List D)) (k:Nat):Bool:=within (ix (l.getD k []) 0) 0 n && within (ix (l.getD k []) 1) 2 6 && within (ix (l.getD k []) 2) 1 (ix (l.getD k []) 1) && riseAt l k
def sizesOk (p c j:List (List D)):Bool:=within p.length 1 2000 && decide (c.length ≤ 1000) && decide (j.length ≤ 200)
def roadOk (p c j:List (List D)):Bool:=sizesOk p c j && allFrom (pieceAt p) 0 p.length && decide (lenR p ≤ 100000) && allFrom (crestAt (lenR p) c) 0 c.length && allFrom (juncAt (lenR p) j) 0 j.length
def G19 (ds:List D):T (List D):=match ds with
 | [p,_,_]=>.need (yes (p.L.length ≤ 2000 ∧ allFrom (pieceAt p.L) 0 p.L.length = true)) (.leaf [.i (lenR p.L)])
 | _=>.fail
end
noncomputable section
def manyP (l:List (List D)):Prop:=1 ≤ l.length ∧ l.length ≤ 2000 ∧ allFrom (pieceAt l) 0 l.length = true
end
theorem hC:∀ t Y,C.ty t = some Y → tyOf C.P t = some Y:=by
 intro t Y h
 dsimp only [C] at h ⊢
 exact h
theorem fuelC:C.fuel = 18446744073709551616:=by kernel_rfl
noncomputable section
def roadP (p c j:List (List D)):Prop:=roadOk p c j = true
end
def s13:Sig:=⟨[.k (.int .i64),.k (.int .i64),.k (.int .i64),.k (.ro [.int .i64,.int .i64,.int .i64])],[(.k .bool,[])]⟩
def s14:Sig:=⟨[.k (.int .i64),.k (.int .i64),.k (.int .i64),.k (.ro [.int .i64,.int .i64,.int .i64])],[(.tup [.nils,.k (.int .i64)],[]),(.tup [.sl 0 1,.k (.int .i64)],[.row [.int .i64]])]⟩
def s9:Sig:=⟨[.agg [.k (.int .i64),.k (.int .i64),.k (.ro [.int .i64,.int .i64,.int .i64]),.k (.ro [.int .i64])]],[(.k .bool,[])]⟩
def s11:Sig:=⟨[.agg [.k (.ro [.int .i64,.int .i64,.int .i64,.int .i64,.int .i64]),.k (.ro [.int .i64,.int .i64]),.k (.ro [.int .i64,.int .i64,.int .i64])]],[(.k (.int .i64),[])]⟩
def s8:Sig:=⟨[.agg [.k (.ro [.int .i64,.int .i64,.int .i64,.int .i64,.int .i64]),.k (.ro [.int .i64,.int .i64]),.k (.ro [.int .i64,.int .i64,.int .i64])]],[(.k .bool,[])]⟩
def s12:Sig:=⟨[.agg [.k (.ro [.int .i64,.int .i64,.int .i64,.int .i64,.int .i64]),.k (.ro [.int .i64,.int .i64]),.k (.ro [.int .i64,.int .i64,.int .i64])],.agg [.k (.int .i64),.k (.int .i64),.k (.ro [.int .i64,.int .i64,.int .i64]),.k (.ro [.int .i64])],.k (.int .i64),.k (.int .i64)],[(.tup [.k (.int .i64),.k (.int .i64),.k (.int .i64)],[])]⟩
def s10:Sig:=⟨[],[(.k .bool,[])]⟩
def s3:Sig:=⟨[.agg [.k (.ro [.int .i64,.int .i64,.int .i64,.int .i64,.int .i64]),.k (.ro [.int .i64,.int .i64]),.k (.ro [.int .i64,.int .i64,.int .i64])],.agg [.k (.int .i64),.k (.int .i64),.k (.ro [.int .i64,.int .i64,.int .i64]),.k (.ro [.int .i64])],.k (.ro [.int .i64]),.k (.ro [.int .i64]),.k (.ro [.int .i64]),.k (.int .i64),.k (.int .i64)],[(.k .bool,[])]⟩
def l3_5:LSig:=mkLS [2,3,4,5,6,7,8,15,16] [(220,[(2,.k (.ro [.int .i64])),(3,.k (.ro [.int .i64])),(4,.k (.ro [.int .i64])),(5,.k (.int .i64)),(6,.k (.int .i64)),(7,.ptr 0 3 0 0),(8,.ptr 1 4 0 0),(15,.sl 2 1),(16,.k (.int .i64))],[.box [.k (.ro [.int .i64,.int .i64,.int .i64,.int .i64,.int .i64]),.k (.ro [.int .i64,.int .i64]),.k (.ro [.int .i64,.int .i64,.int .i64])],.box [.k (.int .i64),.k (.int .i64),.k (.ro [.int .i64,.int .i64,.int .i64]),.k (.ro [.int .i64])],.row [.int .i64]])] [(.exit 0,[3,4,5,6,7,8,15],[(220,[(3,.k (.ro [.int .i64])),(4,.k (.ro [.int .i64])),(5,.k (.int .i64)),(6,.k (.int .i64)),(7,.ptr 0 3 0 0),(8,.ptr 1 4 0 0),(15,.sl 2 1)],[.box [.k (.ro [.int .i64,.int .i64,.int .i64,.int .i64,.int .i64]),.k (.ro [.int .i64,.int .i64]),.k (.ro [.int .i64,.int .i64,.int .i64])],.box [.k (.int .i64),.k (.int .i64),.k (.ro [.int .i64,.int .i64,.int .i64]),.k (.ro [.int .i64])],.row [.int .i64]])]),(.ret,[14],[(220,[(14,.k .bool)],[])])]
def l3_13:LSig:=mkLS [3,4,5,6,7,8,15,17,18] [(220,[(3,.k (.ro [.int .i64])),(4,.k (.ro [.int .i64])),(5,.k (.int .i64)),(6,.k (.int .i64)),(7,.ptr 0 3 0 0),(8,.ptr 1 4 0 0),(15,.sl 2 1),(17,.nils),(18,.k (.int .i64))],[.box [.k (.ro [.int .i64,.int .i64,.int .i64,.int .i64,.int .i64]),.k (.ro [.int .i64,.int .i64]),.k (.ro [.int .i64,.int .i64,.int .i64])],.box [.k (.int .i64),.k (.int .i64),.k (.ro [.int .i64,.int .i64,.int .i64]),.k (.ro [.int .i64])],.row [.int .i64]]),(220,[(3,.k (.ro [.int .i64])),(4,.k (.ro [.int .i64])),(5,.k (.int .i64)),(6,.k (.int .i64)),(7,.ptr 0 3 0 0),(8,.ptr 1 4 0 0),(15,.sl 2 1),(17,.sl 3 3),(18,.k (.int .i64))],[.box [.k (.ro [.int .i64,.int .i64,.int .i64,.int .i64,.int .i64]),.k (.ro [.int .i64,.int .i64]),.k (.ro [.int .i64,.int .i64,.int .i64])],.box [.k (.int .i64),.k (.int .i64),.k (.ro [.int .i64,.int .i64,.int .i64]),.k (.ro [.int .i64])],.row [.int .i64],.row [.int .i64,.int .i64,.int .i64]])] [(.ret,[14],[(220,[(14,.k .bool)],[])]),(.exit 2,[3,5,6,7,8,15,17],[(220,[(3,.k (.ro [.int .i64])),(5,.k (.int .i64)),(6,.k (.int .i64)),(7,.ptr 0 3 0 0),(8,.ptr 1 4 0 0),(15,.sl 2 1),(17,.nils)],[.box [.k (.ro [.int .i64,.int .i64,.int .i64,.int .i64,.int .i64]),.k (.ro [.int .i64,.int .i64]),.k (.ro [.int .i64,.int .i64,.int .i64])],.box [.k (.int .i64),.k (.int .i64),.k (.ro [.int .i64,.int .i64,.int .i64]),.k (.ro [.int .i64])],.row [.int .i64]]),(220,[(3,.k (.ro [.int .i64])),(5,.k (.int .i64)),(6,.k (.int .i64)),(7,.ptr 0 3 0 0),(8,.ptr 1 4 0 0),(15,.sl 2 1),(17,.sl 3 3)],[.box [.k (.ro [.int .i64,.int .i64,.int .i64,.int .i64,.int .i64]),.k (.ro [.int .i64,.int .i64]),.k (.ro [.int .i64,.int .i64,.int .i64])],.box [.k (.int .i64),.k (.int .i64),.k (.ro [.int .i64,.int .i64,.int .i64]),.k (.ro [.int .i64])],.row [.int .i64],.row [.int .i64,.int .i64,.int .i64]])])]
def l3_31:LSig:=mkLS [3,5,6,7,8,15,17,23,25,26] [(220,[(3,.k (.ro [.int .i64])),(5,.k (.int .i64)),(6,.k (.int .i64)),(7,.ptr 0 3 0 0),(8,.ptr 1 4 0 0),(15,.sl 2 1),(17,.sl 3 3),(23,.sl 4 1),(25,.k (.int .i64)),(26,.k (.int .i64))],[.box [.k (.ro [.int .i64,.int .i64,.int .i64,.int .i64,.int .i64]),.k (.ro [.int .i64,.int .i64]),.k (.ro [.int .i64,.int .i64,.int .i64])],.box [.k (.int .i64),.k (.int .i64),.k (.ro [.int .i64,.int .i64,.int .i64]),.k (.ro [.int .i64])],.row [.int .i64],.row [.int .i64,.int .i64,.int .i64],.row [.int .i64]])] [(.exit 4,[],[(220,[],[])]),(.ret,[14],[(220,[(14,.k .bool)],[])])]
set_option maxRecDepth 100000
theorem roundTK_head {C:Cfg} {tab:Tab} {f:FuncId} {b:Code} {k:Nat} {s:LSig} {j:D} {n:Int} {r:List D} (h:j.I = n) (hs:2 ≤ s.head.length):roundTK C tab f b k s (j :: r) = roundTK C tab f b k s (.i n :: r):=by
 obtain ⟨live,head,exits⟩:=s
 match head,hs with
 | a :: b :: c,_=>simp only [roundTK,roundTG,headL,headA,List.headD_cons,List.tail_cons,I_i,h]
theorem headA_head {hs:List Shp} {j:D} {n:Int} (r:List D) (h:j.I = n) (hl:2 ≤ hs.length):headA hs (j :: r) = headA hs (.i n :: r):=by
 match hs,hl with
 | a :: b :: c,_=>simp only [headA,List.headD_cons,List.tail_cons,I_i,h]
theorem roundRT_head {C:Cfg} {tab:Tab} {f:FuncId} {r:Rg} {k kk:Nat} {live:List Nat} {hs:List Shp} {Y:YS} {j:D} {n:Int} (ds el:List D) (h:j.I = n) (hl:2 ≤ hs.length):roundRT C tab f r k kk live hs Y (j :: ds) el = roundRT C tab f r k kk live hs Y (.i n :: ds) el:=by
 unfold roundRT
 rw [headA_head ds h hl]
theorem bytes3:Try.prog.types[3].bytes = 8:=by kernel_rfl
set_option maxRecDepth 100000
theorem big_eq:big = 4611686018427387904:=rfl
theorem within_dec {x a b:Int}:Lite.within x a b = decide (a ≤ x ∧ x ≤ b):=by simp [Lite.within]
section
variable {α:Type} {p:Nat → Bool} {i len:Nat} {rt rf r:α}
theorem all_step (h:(T.ite (allFrom p i (len - i)) (.leaf rt) (.leaf rf)).run = some r) (hlt:i < len):(p i = false → some rf = some r) ∧ (p i = true → (T.ite (allFrom p (i + 1) (len - (i + 1))) (.leaf rt) (.leaf rf)).run = some r):=by
 rw [show len - i = (len - (i + 1)) + 1 by omega] at h
 simp only [allFrom] at h
 refine ⟨fun hp=>?_,fun hp=>?_⟩
 ·rw [hp,Bool.false_and] at h; exact h
 ·rw [hp,Bool.true_and] at h; exact h
theorem all_end (h:(T.ite (allFrom p i (len - i)) (.leaf rt) (.leaf rf)).run = some r) (hge:¬ i < len):some rt = some r:=by
 rw [show len - i = 0 by omega] at h
 exact h
end
section
variable {p:Nat → Bool} {i len:Nat} {ro r:Ex × List D}
theorem first_step (h:(T.ite (decide (firstFrom p i (len - i) ≥ 0)) (.leaf (.ret,[.i (firstFrom p i (len - i))])) (.leaf ro)).run = some r) (hlt:i < len) :
    (p i = true → some (Ex.ret,[D.i (i:Int)]) = some r) ∧ (p i = false → (T.ite (decide (firstFrom p (i + 1) (len - (i + 1)) ≥ 0)) (.leaf (.ret,[.i (firstFrom p (i + 1) (len - (i + 1)))])) (.leaf ro)).run = some r):=by
 rw [show len - i = (len - (i + 1)) + 1 by omega] at h
 simp only [firstFrom] at h
 refine ⟨fun hp=>?_,fun hp=>?_⟩
 ·simp only [hp,if_true,run_ite,run_leaf] at h
  rw [if_pos (by simp)] at h
  exact h
 ·simp only [hp,Bool.false_eq_true,if_false] at h
  exact h
theorem first_end (h:(T.ite (decide (firstFrom p i (len - i) ≥ 0)) (.leaf (.ret,[.i (firstFrom p i (len - i))])) (.leaf ro)).run = some r) (hge:¬ i < len):some ro = some r:=by
 rw [show len - i = 0 by omega] at h
 simp only [firstFrom,run_ite,run_leaf] at h
 rw [if_neg (by simp)] at h
 exact h
end
theorem bytes139:Try.prog.types[139].bytes = 24:=by kernel_rfl
def s80:Sig:=⟨[.k (.int .i64),.k (.int .i64),.k (.int .i64)],[(.k .bool,[])]⟩
def s106:Sig:=⟨[.k (.int .i64),.k (.int .i64),.k (.int .i64)],[(.k .bool,[])]⟩
noncomputable section
def lkF (l:List (List D)) (i:Nat):Int:=ix (l.getD i []) 0
def lkT (l:List (List D)) (i:Nat):Int:=ix (l.getD i []) 1
def lkW (l:List (List D)) (i:Nat):Int:=ix (l.getD i []) 2
def linkP (n f t w:Int):Bool:=Lite.within f 0 (n - 1) && Lite.within t 0 (n - 1) && Lite.within w (-1000000) 1000000
def linkOk (n:Int) (l:List (List D)) (i:Nat):Bool:=linkP n (lkF l i) (lkT l i) (lkW l i)
def netOk (n:Int) (l:List (List D)):Bool:=Lite.within n 1 500 && decide (l.length ≤ 5000) && allFrom (linkOk n l) 0 l.length
def G80 (ds:List D):T (List D):=match ds with
 | [n,a,b]=>.leaf [.b (Lite.within n.I a.I b.I)]
 | _=>.fail
def G106 (ds:List D):T (List D):=match ds with
 | [n,a,b]=>.leaf [.b (Lite.within n.I a.I b.I)]
 | _=>.fail
end
noncomputable def sp80:SpL:=[]
noncomputable def lp80:LpL:=[]
noncomputable def sw80:SwL:=[]
noncomputable def tab80:Tab:=mkTab sp80 lp80 sw80
noncomputable def sp106:SpL:=[]
noncomputable def lp106:LpL:=[]
noncomputable def sw106:SwL:=[]
noncomputable def tab106:Tab:=mkTab sp106 lp106 sw106
set_option linter.unusedVariables false
set_option maxRecDepth 100000
theorem t80 (a b c:D):fnT C tab80 80 s80 [a,b,c] =
 T.ite (decide (a.I ≥ b.I)) (T.leaf [D.b (decide (a.I ≤ c.I))]) (T.leaf [D.b false]):=by kernel_rfl
theorem t106 (a b c:D):fnT C tab106 106 s106 [a,b,c] =
 T.ite (decide (a.I ≥ b.I)) (T.leaf [D.b (decide (a.I ≤ c.I))]) (T.leaf [D.b false]):=by kernel_rfl
theorem ok80 (n:Nat):FnOK C (n + 1) 80 (mkF s80 G80):=by
 refine fn_ofS hC (sp:=sp80) (lp:=lp80) (sw:=sw80) trivial trivial (by kernel_rfl) [] (by kernel_rfl) rfl (fun k hk=>by cases hk) fun ds rr h=>?_
 unfold G80 at h
 split at h
 ·rename_i a b c
  refine (congrArg T.run (t80 a b c)).trans ?_
  rw [← h]
  simp only [run_ite,run_leaf,Lite.within]
  split <;> rename_i hc
  ·have:b.I ≤ a.I:=of_decide_eq_true hc
   simp [this]
  ·have:¬ b.I ≤ a.I:=fun h=>hc (decide_eq_true h)
   simp [this]
 ·cases h
theorem ok106 (n:Nat):FnOK C (n + 1) 106 (mkF s106 G106):=by
 refine fn_ofS hC (sp:=sp106) (lp:=lp106) (sw:=sw106) trivial trivial (by kernel_rfl) [] (by kernel_rfl) rfl (fun k hk=>by cases hk) fun ds rr h=>?_
 unfold G106 at h
 split at h
 ·rename_i a b c
  refine (congrArg T.run (t106 a b c)).trans ?_
  rw [← h]
  simp only [run_ite,run_leaf,Lite.within]
  split <;> rename_i hc
  ·have:b.I ≤ a.I:=of_decide_eq_true hc
   simp [this]
  ·have:¬ b.I ≤ a.I:=fun h=>hc (decide_eq_true h)
   simp [this]
 ·cases h
def s114:SigW:=⟨[.eptr [.k (.int .i64),.k (.ro [.int .i64,.int .i64,.int .i64])],.sl 0 1],[.row [.int .i64]],[(.tup [.sl 1 1,.k (.int .i64)],[.row [.int .i64],.row [.int .i64]])]⟩
def l114_3:LSig:=mkLS [0,1,6,18,19] [(76,[(0,.eptr [.k (.int .i64),.k (.ro [.int .i64,.int .i64,.int .i64])]),(1,.sl 0 1),(6,.sl 1 1),(18,.k (.int .i64)),(19,.k (.int .i64))],[.row [.int .i64],.row [.int .i64]])] [(.exit 0,[0,1,6],[(76,[(0,.eptr [.k (.int .i64),.k (.ro [.int .i64,.int .i64,.int .i64])]),(1,.sl 0 1),(6,.sl 1 1)],[.row [.int .i64],.row [.int .i64]])])]
def l114_9:LSig:=mkLS [0,1,6,8,30,31] [(76,[(0,.eptr [.k (.int .i64),.k (.ro [.int .i64,.int .i64,.int .i64])]),(1,.sl 0 1),(6,.sl 1 1),(8,.k (.int .i64)),(30,.k (.int .i64)),(31,.k (.int .i64))],[.row [.int .i64],.row [.int .i64]])] [(.exit 2,[6,8],[(76,[(6,.sl 1 1),(8,.k (.int .i64))],[.row [.int .i64],.row [.int .i64]])])]
def l114_12:LSig:=mkLS [0,1,6,8,30,31,36,37,38] [(76,[(0,.eptr [.k (.int .i64),.k (.ro [.int .i64,.int .i64,.int .i64])]),(1,.sl 0 1),(6,.sl 1 1),(8,.k (.int .i64)),(30,.k (.int .i64)),(31,.k (.int .i64)),(36,.k (.ro [.int .i64,.int .i64,.int .i64])),(37,.k (.int .i64)),(38,.k (.int .i64))],[.row [.int .i64],.row [.int .i64]])] [(.exit 4,[0,1,6,8,30,31],[(76,[(0,.eptr [.k (.int .i64),.k (.ro [.int .i64,.int .i64,.int .i64])]),(1,.sl 0 1),(6,.sl 1 1),(8,.k (.int .i64)),(30,.k (.int .i64)),(31,.k (.int .i64))],[.row [.int .i64],.row [.int .i64]])])]
noncomputable section
def rg (R:List (List D)) (j:Nat):Int:=ix (R.getD j []) 0
def rs (R:List (List D)) (j:Nat) (v:Int):List (List D):=R.set j [.i v]
def bndR (R:List (List D)) (M:Int):Prop:=∀ j,-M ≤ rg R j ∧ rg R j ≤ M
def extraF:Nat → Nat → List (List D)
 | _,0=>[]
 | i,k + 1=>[.i 0,.i (i:Int),.i 0] :: extraF (i + 1) k
def allL (n:Int) (l:List (List D)):List (List D):=l ++ extraF 0 n.toNat
def netP (n:Int) (l:List (List D)):Prop:=netOk n l = true
def goodL (n:Int) (l:List (List D)):Prop:=1 ≤ n ∧ n ≤ 500 ∧ l.length ≤ 5500 ∧ ∀ i,i < l.length → (0 ≤ lkF l i ∧ lkF l i < n) ∧ (0 ≤ lkT l i ∧ lkT l i < n) ∧ (-1000000 ≤ lkW l i ∧ lkW l i ≤ 1000000)
abbrev RSt:=List (List D) × List (List D) × Int
def stepR (l:List (List D)) (i:Nat) (s:RSt):RSt:=
 if rg s.1 (lkF l i).toNat + lkW l i > rg s.1 (lkT l i).toNat then (rs s.1 (lkT l i).toNat (rg s.1 (lkF l i).toNat + lkW l i),rs s.2.1 (lkT l i).toNat i,lkT l i) else s
def passR (l:List (List D)):Nat → Nat → RSt → RSt
 | _,0,s=>s
 | i,k + 1,s=>passR l (i + 1) k (stepR l i s)
def roundsR (l:List (List D)):Nat → RSt → RSt
 | 0,s=>s
 | k + 1,s=>if (passR l 0 l.length (s.1,s.2.1,-1)).2.2 < 0 then passR l 0 l.length (s.1,s.2.1,-1) else roundsR l k (passR l 0 l.length (s.1,s.2.1,-1))
def pushR (n:Int) (l t:List (List D)):RSt:=roundsR l (n.toNat + 1) (t,List.replicate n.toNat [.i (-1)],-1)
def G114 (ds:List D):T (List D):=match ds with
 | [n, l,m,t]=>.need (yes (goodL n.I l.L ∧ m.I = n.I ∧ (t.L.length:Int) = n.I ∧ bndR t.L 1099511627776))
     (.leaf [.i n.I,.i (pushR n.I l.L t.L).2.2,.l (pushR n.I l.L t.L).1,.l (pushR n.I l.L t.L).2.1])
 | _=>.fail
def G114_3 (ds:List D):T (Ex × List D):=match ds with
 | [n, l,m,q,k,i,t,b]=>.need (yes (1 ≤ n.I ∧ n.I ≤ 500 ∧ m.I = n.I ∧ q.I = n.I ∧ k.I = n.I ∧ 0 ≤ i.I ∧ i.I ≤ n.I ∧ b.L = List.replicate i.I.toNat [.i (-1)] ++ List.replicate (n.I - i.I).toNat [.i 0]))
     (.leaf (.exit 0,[.i n.I,.l l.L,.i n.I,.i n.I,.l t.L,.l (List.replicate n.I.toNat [.i (-1)])]))
 | _=>.fail
def room (t:List (List D)) (k:Int):Prop:=∃ M:Int,bndR t M ∧ M + 1000000 * k ≤ 4611686018427387904
def G114_9 (ds:List D):T (Ex × List D):=match ds with
 | [n, l,m,q,r,k,i,t,b]=>.need (yes (goodL n.I l.L ∧ m.I = n.I ∧ q.I = n.I ∧ k.I = n.I + 1 ∧ 0 ≤ i.I ∧ i.I ≤ n.I + 1 ∧ (t.L.length:Int) = n.I ∧ (b.L.length:Int) = n.I ∧ room t.L (l.L.length * (n.I + 1 - i.I))))
     (.leaf (.exit 2,[.i n.I,.i (roundsR l.L (n.I + 1 - i.I).toNat (t.L,b.L,r.I)).2.2,.l (roundsR l.L (n.I + 1 - i.I).toNat (t.L,b.L,r.I)).1,.l (roundsR l.L (n.I + 1 - i.I).toNat (t.L,b.L,r.I)).2.1]))
 | _=>.fail
def G114_12 (ds:List D):T (Ex × List D):=match ds with
 | [n, l,m,q,r,k,i,l',k',i',t,b]=>.need (yes (goodL n.I l.L ∧ m.I = n.I ∧ q.I = n.I ∧ l'.L = l.L ∧ k'.I = l.L.length ∧ 0 ≤ i'.I ∧ i'.I ≤ l.L.length ∧ (t.L.length:Int) = n.I ∧ (b.L.length:Int) = n.I ∧ room t.L (l.L.length - i'.I)))
     (.leaf (.exit 4,[.i n.I,.l l.L,.i n.I,.i n.I,.i (passR l.L i'.I.toNat (l.L.length - i'.I.toNat) (t.L,b.L,r.I)).2.2,.i k.I,.i i.I,.l (passR l.L i'.I.toNat (l.L.length - i'.I.toNat) (t.L,b.L,r.I)).1,.l (passR l.L i'.I.toNat (l.L.length - i'.I.toNat) (t.L,b.L,r.I)).2.1]))
 | _=>.fail
end
noncomputable def sp114:SpL:=[]
noncomputable def lp114:LpL:=[(3,mkLK 1 l114_3 G114_3),(9,mkLK 1 l114_9 G114_9),(12,mkLK 1 l114_12 G114_12)]
noncomputable def sw114:SwL:=[]
noncomputable def tab114:Tab:=mkTab sp114 lp114 sw114
set_option linter.unusedVariables false
set_option maxRecDepth 100000
theorem t114 (a b c d:D):fnTW C tab114 114 s114 [a,b,c,d] =
 T.need (decide ((0:Int) ≤ a.I ∧ a.I = a.I ∧ a.I ≤ (2:Int) ^ 40 ∧ (↑Try.prog.types[3].bytes:Int) * a.I ≤ (2:Int) ^ 46)) (T.need (yes ((1:Int) ≤ a.I ∧ a.I ≤ (500:Int) ∧ (c.I.toNat:Int) = a.I ∧ (↑(List.length (List.replicate a.I.toNat [D.i 0])):Int) = a.I ∧ (↑(List.length (List.replicate a.I.toNat [D.i 0])):Int) = a.I ∧ (0:Int) ≤ (0:Int) ∧ (0:Int) ≤ a.I ∧ List.replicate a.I.toNat [D.i 0] = List.replicate (Int.toNat (0:Int)) [D.i (-1:Int)] ++ List.replicate (Int.toNat (a.I - (0:Int))) [D.i 0])) (T.need (yes (goodL a.I b.L ∧ (a.I.toNat:Int) = a.I ∧ (a.I.toNat:Int) = a.I ∧ IntKind.i64.wrap (a.I + (1:Int)) = a.I + (1:Int) ∧ (0:Int) ≤ (0:Int) ∧ (0:Int) ≤ a.I + (1:Int) ∧ (d.L.length:Int) = a.I ∧ (↑(List.length (List.replicate a.I.toNat [D.i (-1:Int)])):Int) = a.I ∧ room d.L ((b.L.length:Int) * (a.I + (1:Int) - (0:Int))))) (T.leaf [D.i (a.I.toNat:Int),D.i (roundsR b.L (Int.toNat (a.I + (1:Int) - (0:Int))) (d.L,List.replicate a.I.toNat [D.i (-1:Int)],(-1:Int))).snd.snd,D.l (roundsR b.L (Int.toNat (a.I + (1:Int) - (0:Int))) (d.L,List.replicate a.I.toNat [D.i (-1:Int)],(-1:Int))).fst,D.l (roundsR b.L (Int.toNat (a.I + (1:Int) - (0:Int))) (d.L,List.replicate a.I.toNat [D.i (-1:Int)],(-1:Int))).snd.fst]))):=by kernel_rfl
theorem t114_3 (a b c d e f g h:D):roundTK C tab114 114 (loopOf C.P 114 3) 1 l114_3 [a,b,c,d,e,f,g,h] =
 T.ite (decide (f.I < e.I)) (T.need (decide ((0:Int) ≤ f.I ∧ f.I < (d.I.toNat:Int))) (T.need (decide (f.I.toNat < h.L.length)) (T.leaf (Rd.again [D.i a.I,D.l b.L,D.i (c.I.toNat:Int),D.i (d.I.toNat:Int),D.i e.I,D.i (IntKind.i64.wrap (f.I + (1:Int))),D.l g.L,D.l (List.set h.L f.I.toNat (updC (List.getD h.L f.I.toNat []) [D.i (-1:Int)] 0 0 (List.length [K.int IntKind.i64])))])))) (T.leaf (Rd.out (Ex.exit 0) [D.i a.I,D.l b.L,D.i (c.I.toNat:Int),D.i (d.I.toNat:Int),D.l g.L,D.l h.L])):=by kernel_rfl
theorem t114_9 (a b c d e f g h i:D):roundTK C tab114 114 (loopOf C.P 114 9) 1 l114_9 [a,b,c,d,e,f,g,h,i] =
 T.ite (decide (g.I < f.I)) (T.need (yes (goodL a.I b.L ∧ (c.I.toNat:Int) = a.I ∧ (d.I.toNat:Int) = a.I ∧ b.L = b.L ∧ (b.L.length:Int) = (b.L.length:Int) ∧ (0:Int) ≤ (0:Int) ∧ (0:Int) ≤ (b.L.length:Int) ∧ (h.L.length:Int) = a.I ∧ (i.L.length:Int) = a.I ∧ room h.L ((b.L.length:Int) - (0:Int)))) (T.ite (decide ((passR b.L (Int.toNat (0:Int)) (b.L.length - Int.toNat (0:Int)) (h.L,i.L,(-1:Int))).snd.snd < (0:Int))) (T.leaf (Rd.out (Ex.exit 2) [D.i (a.I.toNat:Int),D.i (passR b.L (Int.toNat (0:Int)) (b.L.length - Int.toNat (0:Int)) (h.L,i.L,(-1:Int))).snd.snd,D.l (passR b.L (Int.toNat (0:Int)) (b.L.length - Int.toNat (0:Int)) (h.L,i.L,(-1:Int))).fst,D.l (passR b.L (Int.toNat (0:Int)) (b.L.length - Int.toNat (0:Int)) (h.L,i.L,(-1:Int))).snd.fst])) (T.leaf (Rd.again [D.i a.I,D.l b.L,D.i (a.I.toNat:Int),D.i (a.I.toNat:Int),D.i (passR b.L (Int.toNat (0:Int)) (b.L.length - Int.toNat (0:Int)) (h.L,i.L,(-1:Int))).snd.snd,D.i f.I,D.i (IntKind.i64.wrap (g.I + (1:Int))),D.l (passR b.L (Int.toNat (0:Int)) (b.L.length - Int.toNat (0:Int)) (h.L,i.L,(-1:Int))).fst,D.l (passR b.L (Int.toNat (0:Int)) (b.L.length - Int.toNat (0:Int)) (h.L,i.L,(-1:Int))).snd.fst])))) (T.leaf (Rd.out (Ex.exit 2) [D.i (d.I.toNat:Int),D.i e.I,D.l h.L,D.l i.L])):=by kernel_rfl
theorem t114_12 (a b c d e f g h i j k l:D):roundTK C tab114 114 (loopOf C.P 114 12) 1 l114_12 [a,b,c,d,e,f,g,h,i,j,k,l] =
 T.ite (decide (j.I < i.I)) (T.need (decide ((0:Int) ≤ j.I ∧ j.I < (h.L.length:Int))) (T.need (decide ((0:Int) ≤ D.I (List.getD (List.getD h.L j.I.toNat []) 0 default) ∧ D.I (List.getD (List.getD h.L j.I.toNat []) 0 default) < (c.I.toNat:Int))) (T.need (decide (Int.toNat (D.I (List.getD (List.getD h.L j.I.toNat []) 0 default)) < k.L.length)) (T.need (decide ((0:Int) ≤ D.I (List.getD (List.getD h.L j.I.toNat []) (0 + 1) default) ∧ D.I (List.getD (List.getD h.L j.I.toNat []) (0 + 1) default) < (c.I.toNat:Int))) (T.need (decide (Int.toNat (D.I (List.getD (List.getD h.L j.I.toNat []) (0 + 1) default)) < k.L.length)) (T.ite (decide (IntKind.i64.wrap (D.I (List.getD (List.getD k.L (Int.toNat (D.I (List.getD (List.getD h.L j.I.toNat []) 0 default))) []) 0 default) + D.I (List.getD (List.getD h.L j.I.toNat []) (0 + 1 + 1) default)) > D.I (List.getD (List.getD k.L (Int.toNat (D.I (List.getD (List.getD h.L j.I.toNat []) (0 + 1) default))) []) 0 default))) (T.need (decide ((0:Int) ≤ D.I (List.getD (List.getD h.L j.I.toNat []) (0 + 1) default) ∧ D.I (List.getD (List.getD h.L j.I.toNat []) (0 + 1) default) < (c.I.toNat:Int))) (T.need (decide (Int.toNat (D.I (List.getD (List.getD h.L j.I.toNat []) (0 + 1) default)) < k.L.length)) (T.need (decide ((0:Int) ≤ D.I (List.getD (List.getD h.L j.I.toNat []) (0 + 1) default) ∧ D.I (List.getD (List.getD h.L j.I.toNat []) (0 + 1) default) < (d.I.toNat:Int))) (T.need (decide (Int.toNat (D.I (List.getD (List.getD h.L j.I.toNat []) (0 + 1) default)) < l.L.length)) (T.leaf (Rd.again [D.i a.I,D.l b.L,D.i (c.I.toNat:Int),D.i (d.I.toNat:Int),D.i (D.I (List.getD (List.getD h.L j.I.toNat []) (0 + 1) default)),D.i f.I,D.i g.I,D.l h.L,D.i i.I,D.i (IntKind.i64.wrap (j.I + (1:Int))),D.l (List.set k.L (Int.toNat (D.I (List.getD (List.getD h.L j.I.toNat []) (0 + 1) default))) (updC (List.getD k.L (Int.toNat (D.I (List.getD (List.getD h.L j.I.toNat []) (0 + 1) default))) []) [D.i (IntKind.i64.wrap (D.I (List.getD (List.getD k.L (Int.toNat (D.I (List.getD (List.getD h.L j.I.toNat []) 0 default))) []) 0 default) + D.I (List.getD (List.getD h.L j.I.toNat []) (0 + 1 + 1) default)))] 0 0 (List.length [K.int IntKind.i64]))),D.l (List.set l.L (Int.toNat (D.I (List.getD (List.getD h.L j.I.toNat []) (0 + 1) default))) (updC (List.getD l.L (Int.toNat (D.I (List.getD (List.getD h.L j.I.toNat []) (0 + 1) default))) []) [D.i j.I] 0 0 (List.length [K.int IntKind.i64])))])))))) (T.leaf (Rd.again [D.i a.I,D.l b.L,D.i (c.I.toNat:Int),D.i (d.I.toNat:Int),D.i e.I,D.i f.I,D.i g.I,D.l h.L,D.i i.I,D.i (IntKind.i64.wrap (j.I + (1:Int))),D.l k.L,D.l l.L])))))))) (T.leaf (Rd.out (Ex.exit 4) [D.i a.I,D.l b.L,D.i (c.I.toNat:Int),D.i (d.I.toNat:Int),D.i e.I,D.i f.I,D.i g.I,D.l k.L,D.l l.L])):=by kernel_rfl
set_option maxRecDepth 100000
theorem len_rs (R:List (List D)) (j:Nat) (v:Int):(rs R j v).length = R.length:=by simp [rs]
theorem rg_rs {R:List (List D)} {j:Nat} (hj:j < R.length) (v:Int) (i:Nat):rg (rs R j v) i = if i = j then v else rg R i:=by
 unfold rg rs
 simp only [List.getD_eq_getElem?_getD,List.getElem?_set]
 by_cases e:i = j
 ·subst e; simp [hj,ix,D.I]
 ·rw [if_neg (fun h=>e h.symm),if_neg e]
theorem rg_ge {R:List (List D)} {j:Nat} (hj:R.length ≤ j):rg R j = 0:=by
 unfold rg
 rw [List.getD_eq_getElem?_getD,List.getElem?_eq_none hj]
 rfl
theorem rg_def (R:List (List D)) (j:Nat):((R.getD j []).getD 0 default).I = rg R j:=rfl
theorem rs_def (R:List (List D)) (j:Nat) (v:Int):R.set j [.i v] = rs R j v:=rfl
theorem rg_rep {n j:Nat} {v:Int} (hj:j < n):rg (List.replicate n [.i v]) j = v:=by
 unfold rg
 rw [List.getD_eq_getElem?_getD,List.getElem?_replicate,if_pos hj]
 rfl
theorem len_extraF:∀ (i k:Nat),(extraF i k).length = k
 | _,0=>rfl
 | i,k + 1=>by simp [extraF,len_extraF (i + 1) k]
theorem extraF_get:∀ {i k j:Nat},j < k → (extraF i k).getD j [] = [.i 0,.i ((i + j:Nat):Int),.i 0]
 | i,k + 1,0,_=>by simp [extraF]
 | i, k + 1,j + 1,h=>by
   have:=extraF_get (i:=i + 1) (k:=k) (j:=j) (by omega)
   simp only [extraF,List.getD_cons_succ,this]
   rw [show i + 1 + j = i + (j + 1) by omega]
theorem extraF_snoc:∀ (i k:Nat) (r:List (List D)),r ++ [[.i 0,.i (i:Int),.i 0]] ++ extraF (i + 1) k = r ++ extraF i (k + 1):=fun i k r=>by simp [extraF]
theorem len_stepR (l:List (List D)) (i:Nat) (s:RSt):(stepR l i s).1.length = s.1.length ∧ (stepR l i s).2.1.length = s.2.1.length:=by
 unfold stepR
 split
 ·exact ⟨len_rs ..,len_rs ..⟩
 ·exact ⟨rfl,rfl⟩
theorem len_passR (l:List (List D)):∀ (k i:Nat) (s:RSt),(passR l i k s).1.length = s.1.length ∧ (passR l i k s).2.1.length = s.2.1.length
 | 0,_,_=>⟨rfl,rfl⟩
 | k + 1,i,s=>by
   have h1:=len_passR l k (i + 1) (stepR l i s)
   have h2:=len_stepR l i s
   exact ⟨h1.1.trans h2.1,h1.2.trans h2.2⟩
theorem room_step {n:Int} {l:List (List D)} (hl:goodL n l) {i:Nat} (hi:i < l.length) {s:RSt} (hs:(s.1.length:Int) = n) {k:Int} (h:room s.1 (k + 1)):room (stepR l i s).1 k:=by
 obtain ⟨M,h1,h2⟩:=h
 obtain ⟨h3,h4,h5⟩:=hl.2.2.2 i hi
 have h0:=h1 0
 refine ⟨M + 1000000,fun j=>?_,by omega⟩
 have hj:=h1 j
 unfold stepR
 split
 ·simp only
  rw [rg_rs (by omega)]
  split
  ·have:=h1 (lkF l i).toNat; omega
  ·omega
 ·omega
theorem room_pass {n:Int} {l:List (List D)} (hl:goodL n l):∀ (k i:Nat),i + k ≤ l.length → ∀ {s:RSt},(s.1.length:Int) = n → ∀ {q:Int},room s.1 (q + k) → room (passR l i k s).1 q
 | 0, _,_,s,_,q,h=>by
   have e:q + ((0:Nat):Int) = q:=by omega
   rw [e] at h; exact h
 | k + 1,i,hk,s,hs,q,h=>by
   refine room_pass hl k (i + 1) (by omega) (by rw [(len_stepR l i s).1]; exact hs) (room_step hl (by omega) hs ?_)
   have e:q + ((k + 1:Nat):Int) = q + k + 1:=by omega
   rw [e] at h; exact h
theorem room_rg {t:List (List D)} {k:Int} (h:room t k) (hk:0 ≤ k) (j:Nat):-4611686018427387904 ≤ rg t j ∧ rg t j ≤ 4611686018427387904:=by
 obtain ⟨M,h1,h2⟩:=h
 have:=h1 j
 omega
theorem rep_set:∀ (i k:Nat) (a b:List D),(List.replicate i a ++ List.replicate (k + 1) b).set i a = List.replicate (i + 1) a ++ List.replicate k b
 | 0,k,a,b=>by simp [List.replicate_succ]
 | i + 1,k,a,b=>by
   have:=rep_set i k a b
   rw [List.replicate_succ (n:=i),List.replicate_succ (n:=i + 1),List.cons_append,List.set_cons_succ,this]
   rfl
theorem ok114_12 (n:Nat):LoopSimK C (n + 0) 1 114 (loopOf C.P 114 12) (mkLK 1 l114_12 G114_12):=by
 refine loop_ofK hC (sp:=sp114) (lp:=lp114) (sw:=sw114) trivial trivial 1 [] (by kernel_rfl) rfl (fun k hk=>by cases hk) (by kernel_rfl) (fun ds=>((ds.getD 8 default).I - (ds.getD 9 default).I).toNat) fun ds rr h=>?_
 unfold G114_12 at h
 split at h
 ·rename_i n l m q r k i a b c t u
  obtain ⟨hp,h⟩:=need_some h
  rw [yes_iff] at hp
  obtain ⟨⟨g1,g2,g3,g4⟩,h2,h3,h4,h5,h6,h7,h8,h9,h10⟩:=hp
  have hb:=big_eq
  refine ⟨by rw [fuelC]; simp; omega,?_⟩
  rw [show roundTK C (mkTab sp114 lp114 sw114) 114 (loopOf C.P 114 12) 1 l114_12 [n,l,m,q,r,k,i,a,b,c,t,u] = _ from t114_12 n l m q r k i a b c t u]
  obtain ⟨j,hj⟩:∃ j:Nat,c.I = j:=⟨c.I.toNat,by omega⟩
  have hg:goodL n.I l.L:=⟨g1,g2,g3,g4⟩
  simp only [hj,h2,h3,h4,h5,Int.toNat_natCast,upd1,Nat.zero_add,Nat.reduceAdd] at h h6 h7 h10 ⊢
  refine rd_if (fun hlt=>?_) fun hge=>rd_out ?_
  ·have hjl:j < l.L.length:=by omega
   obtain ⟨f1,f2,f3⟩:=g4 j hjl
   have e1:((l.L.getD j []).getD 0 default).I = lkF l.L j:=rfl
   have e2:((l.L.getD j []).getD 1 default).I = lkT l.L j:=rfl
   have e3:((l.L.getD j []).getD 2 default).I = lkW l.L j:=rfl
   have h0:=room_rg h10 (by omega) (lkF l.L j).toNat
   simp only [e1,e2,e3,rg_def,rs_def]
   have w:IntKind.i64.wrap (rg t.L (lkF l.L j).toNat + lkW l.L j) = rg t.L (lkF l.L j).toNat + lkW l.L j:=wrap_id (by omega) (by omega)
   rw [w,wrap_succ (by omega)]
   have e4:l.L.length - j = (l.L.length - (j + 1)) + 1:=by omega
   rw [e4] at h
   simp only [passR] at h
   have hroom:room (stepR l.L j (t.L,u.L,r.I)).1 ((l.L.length:Int) - ((j + 1:Nat):Int)):=room_step hg hjl (s:=(t.L,u.L,r.I)) h8 (by
    have:(l.L.length:Int) - ((j + 1:Nat):Int) + 1 = l.L.length - j:=by omega
    rw [this]; exact h10)
   have hmu:((l.L.length:Int) - ((j + 1:Nat):Int)).toNat < ((b.I) - c.I).toNat:=by omega
   refine rd_dec ⟨by omega,by omega⟩ (rd_dec ⟨by omega,by omega⟩ (rd_dec (by omega) (rd_dec ⟨by omega,by omega⟩ (rd_dec (by omega) (rd_if (fun hgt=>?_) fun hle=>?_)))))
   ·have hst:stepR l.L j (t.L,u.L,r.I) = (rs t.L (lkT l.L j).toNat (rg t.L (lkF l.L j).toNat + lkW l.L j),rs u.L (lkT l.L j).toNat j,lkT l.L j):=if_pos hgt
    rw [hst] at h hroom
    refine rd_dec ⟨by omega,by omega⟩ (rd_dec (by omega) (rd_dec ⟨by omega,by omega⟩ (rd_dec (by omega) (rd_again ((need_yes ⟨hg,by simp only [I_i]; omega,by simp only [I_i]; omega,rfl,rfl,by simp only [I_i]; omega,by simp only [I_i,L_l]; omega,by simp only [L_l,len_rs,I_i]; exact h8,by simp only [L_l,len_rs,I_i]; exact h9,hroom⟩).trans ?_) hmu))))
    simp only [L_l,I_i,Int.toNat_natCast]
    exact h
   ·have hst:stepR l.L j (t.L,u.L,r.I) = (t.L,u.L,r.I):=if_neg hle
    rw [hst] at h hroom
    refine rd_again ((need_yes ⟨hg,by simp only [I_i]; omega,by simp only [I_i]; omega,rfl,rfl,by simp only [I_i]; omega,by simp only [I_i,L_l]; omega,h8,h9,hroom⟩).trans ?_) hmu
    simp only [L_l,I_i,Int.toNat_natCast]
    exact h
  ·rw [← h]
   have e5:l.L.length - j = 0:=by omega
   have e6:((n.I.toNat:Nat):Int) = n.I:=by omega
   simp only [e5,passR,run_leaf,e6]
 ·cases h
theorem ok114_9 (n:Nat):LoopSimK C (n + 0) 1 114 (loopOf C.P 114 9) (mkLK 1 l114_9 G114_9):=by
 refine loop_ofK hC (sp:=sp114) (lp:=lp114) (sw:=sw114) trivial trivial 1 [12] (by kernel_rfl) (by kernel_rfl) (fun k hk L hL=>by simp at hk; subst hk; cases hL; exact ok114_12 n) (by kernel_rfl) (fun ds=>((ds.getD 5 default).I - (ds.getD 6 default).I).toNat) fun ds rr h=>?_
 unfold G114_9 at h
 split at h
 ·rename_i n l m q r k i t u
  obtain ⟨hp,h⟩:=need_some h
  rw [yes_iff] at hp
  obtain ⟨⟨g1,g2,g3,g4⟩,h2,h3,h4,h5,h6,h7,h8,h9⟩:=hp
  have hb:=big_eq
  refine ⟨by rw [fuelC]; simp; omega,?_⟩
  rw [show roundTK C (mkTab sp114 lp114 sw114) 114 (loopOf C.P 114 9) 1 l114_9 [n,l,m,q,r,k,i,t,u] = _ from t114_9 n l m q r k i t u]
  obtain ⟨j,hj⟩:∃ j:Nat,i.I = j:=⟨i.I.toNat,by omega⟩
  have hg:goodL n.I l.L:=⟨g1,g2,g3,g4⟩
  have e6:((n.I.toNat:Nat):Int) = n.I:=by omega
  simp only [hj,h2,h3,h4,Int.toNat_zero,Nat.sub_zero,Int.sub_zero,e6] at h h6 h9 ⊢
  refine rd_if (fun hlt=>?_) fun hge=>rd_out ?_
  ·have e7:(n.I + 1 - (j:Int)).toNat = (n.I + 1 - ((j + 1:Nat):Int)).toNat + 1:=by omega
   rw [e7] at h
   simp only [roundsR] at h
   have hr1:room t.L (l.L.length * (n.I + 1 - ((j + 1:Nat):Int)) + (l.L.length:Int)):=by
    have:(l.L.length:Int) * (n.I + 1 - ((j + 1:Nat):Int)) + l.L.length = l.L.length * (n.I + 1 - j):=by
     rw [show n.I + 1 - (j:Int) = (n.I + 1 - ((j + 1:Nat):Int)) + 1 by omega,Int.mul_add,Int.mul_one]
    rw [this]; exact h9
   have hr0:room t.L (l.L.length:Int):=by
    obtain ⟨M,m1,m2⟩:=hr1
    have h0:=m1 0
    have:0 ≤ (l.L.length:Int) * (n.I + 1 - ((j + 1:Nat):Int)):=Int.mul_nonneg (by omega) (by omega)
    exact ⟨M,m1,by rw [Int.mul_add] at m2; omega⟩
   have hr2:=room_pass hg l.L.length 0 (by omega) (s:=(t.L,u.L,-1)) h7 hr1
   have hl2:=len_passR l.L l.L.length 0 (t.L,u.L,-1)
   refine rd_yes ⟨hg,by trivial,by trivial,by trivial,by trivial,by omega,by omega,h7,h8,hr0⟩ (rd_if (fun hc=>rd_out ?_) fun hc=>?_)
   ·rw [if_pos hc] at h
    exact h
   ·rw [if_neg hc] at h
    rw [wrap_succ (by omega)]
    refine rd_again ((need_yes ⟨hg,by simp only [I_i],by simp only [I_i],by simp only [I_i],by simp only [I_i]; omega,by simp only [I_i]; omega,by simp only [L_l,I_i,hl2.1]; exact h7,by simp only [L_l,I_i,hl2.2]; exact h8,by simp only [L_l,I_i]; exact hr2⟩).trans ?_) (show (n.I + 1 - ((j + 1:Nat):Int)).toNat < (k.I - i.I).toNat by omega)
    simp only [L_l,I_i]
    exact h
  ·rw [← h]
   have e5:(n.I + 1 - (j:Int)).toNat = 0:=by omega
   simp only [e5,roundsR,run_leaf]
 ·cases h
theorem ok114_3 (n:Nat):LoopSimK C (n + 0) 1 114 (loopOf C.P 114 3) (mkLK 1 l114_3 G114_3):=by
 refine loop_ofK hC (sp:=sp114) (lp:=lp114) (sw:=sw114) trivial trivial 1 [] (by kernel_rfl) rfl (fun k hk=>by cases hk) (by kernel_rfl) (fun ds=>((ds.getD 4 default).I - (ds.getD 5 default).I).toNat) fun ds rr h=>?_
 unfold G114_3 at h
 split at h
 ·rename_i n l m q k i t u
  obtain ⟨hp,h⟩:=need_some h
  rw [yes_iff] at hp
  obtain ⟨h1,h2,h0,h3,h4,h5,h6,h7⟩:=hp
  have hb:=big_eq
  refine ⟨by rw [fuelC]; simp; omega,?_⟩
  rw [show roundTK C (mkTab sp114 lp114 sw114) 114 (loopOf C.P 114 3) 1 l114_3 [n,l,m,q,k,i,t,u] = _ from t114_3 n l m q k i t u]
  obtain ⟨j,hj⟩:∃ j:Nat,i.I = j:=⟨i.I.toNat,by omega⟩
  have e6:((n.I.toNat:Nat):Int) = n.I:=by omega
  simp only [hj,h0,h3,h4,h7,Int.toNat_natCast,upd1,e6] at h h6 ⊢
  refine rd_if (fun hlt=>?_) fun hge=>rd_out ?_
  ·refine rd_dec ⟨by omega,by omega⟩ (rd_dec (by simp only [List.length_append,List.length_replicate]; omega) ?_)
   rw [wrap_succ (by omega)]
   have e7:(n.I - (j:Int)).toNat = (n.I - ((j + 1:Nat):Int)).toNat + 1:=by omega
   rw [e7,rep_set]
   refine rd_again ((need_yes ⟨h1,h2,by simp only [I_i],by simp only [I_i],by simp only [I_i],by simp only [I_i]; omega,by simp only [I_i]; omega,by simp only [L_l,I_i,Int.toNat_natCast]⟩).trans ?_) (show (n.I - ((j + 1:Nat):Int)).toNat < (k.I - i.I).toNat by omega)
   rw [← h]
   rfl
  ·rw [← h]
   have e5:(n.I - (j:Int)).toNat = 0:=by omega
   have e8:j = n.I.toNat:=by omega
   rw [e5,e8]
   simp only [List.replicate_zero,List.append_nil,run_leaf]
 ·cases h
theorem ok114 (n:Nat):FnOKW C (n + 1) 114 (mkFW s114 G114):=by
 refine fn_ofW hC (sp:=sp114) (lp:=lp114) (sw:=sw114) trivial trivial (by kernel_rfl) [3,9] (by kernel_rfl) (by kernel_rfl) (fun k hk L hL=>by
     simp at hk
     rcases hk with rfl | rfl <;> cases hL
     ·exact ok114_3 n
     ·exact ok114_9 n) fun ds rr h=>?_
 unfold G114 at h
 split at h
 ·rename_i n l m t
  obtain ⟨hp,h⟩:=need_some h
  rw [yes_iff] at hp
  obtain ⟨⟨g1,g2,g3,g4⟩,h2,h3,h4⟩:=hp
  refine (congrArg T.run (t114 n l m t)).trans ?_
  have hg:goodL n.I l.L:=⟨g1,g2,g3,g4⟩
  have e6:((n.I.toNat:Nat):Int) = n.I:=by omega
  rw [← h]
  have hroom:room t.L ((l.L.length:Int) * (n.I + 1 - 0)):=by
   refine ⟨1099511627776,h4,?_⟩
   have:(l.L.length:Int) * (n.I + 1 - 0) ≤ 5500 * 501:=Int.mul_le_mul (by omega) (by omega) (by omega) (by omega)
   omega
  have w:IntKind.i64.wrap (n.I + 1) = n.I + 1:=wrap_id (by omega) (by omega)
  have e7:(n.I + 1 - 0).toNat = n.I.toNat + 1:=by omega
  simp only [Int.toNat_zero,h2,e6,w,List.length_replicate,bytes3,e7]
  refine go_dec ⟨by omega,by trivial,by omega,by omega⟩ (go_yes ⟨g1,g2,by trivial,by trivial,by trivial,by omega,by omega,by simp⟩ (go_yes ⟨hg,by trivial,by trivial,by trivial,by omega,by omega,h3,by trivial,hroom⟩ ?_))
  rfl
 ·cases h
noncomputable section
def zeros (n:Int):List (List D):=List.replicate n.toNat [.i 0]
def backI (n:Int) (l b:List (List D)) (v:Int):Int:=if rg b v.toNat < 0 then (l.length:Int) - n + v else rg b v.toNat
def predI (n:Int) (l b:List (List D)) (v:Int):Int:=lkF l (backI n l b v).toNat
def walk (n:Int) (l b:List (List D)):Nat → Int → Int
 | 0,v=>v
 | k + 1,v=>walk n l b k (predI n l b v)
def stepsTo (n:Int) (l b:List (List D)) (v e:Int):Nat → Nat → Nat
 | k,0=>k
 | k,f + 1=>if v = e then k else stepsTo n l b (predI n l b v) e (k + 1) f
def dist (n:Int) (l b:List (List D)) (v e:Int):Nat:=stepsTo n l b v e 0 501
def chainF (n:Int) (l b:List (List D)):Nat → Int → List (List D)
 | 0,_=>[]
 | k + 1,v=>[.i (backI n l b v)] :: chainF n l b k (predI n l b v)
def circle (n:Int) (l b:List (List D)) (v:Int):List (List D):=[.i (backI n l b v)] :: chainF n l b (dist n l b (predI n l b v) v) (predI n l b v)
end
end Go.Proofs.Ytgoedfonmocafaa
namespace Go.Lite
structure Net where
 n : Nat
 m : Nat
 f : Nat → Nat
 t : Nat → Nat
 w : Nat → Int
structure Net.OK (E:Net):Prop where
 f : ∀ i,i < E.m → E.f i < E.n
 t : ∀ i,i < E.m → E.t i < E.n
def Net.kept (E:Net) (p:Nat → Int):Prop:=∀ i,i < E.m → p (E.f i) + E.w i ≤ p (E.t i)
def upd {α:Type} (x:Nat → α) (i:Nat) (v:α):Nat → α:=fun j=>if j = i then v else x j
structure Rz where
 t : Nat → Int
 b : Nat → Int
 r : Int
 lst:Nat → Nat
 lv:Nat → Nat
 c : Nat
def Net.step (E:Net) (ρ i:Nat) (s:Rz):Rz:=
 if s.t (E.f i) + E.w i > s.t (E.t i) then
  { t:=upd s.t (E.t i) (s.t (E.f i) + E.w i),b:=upd s.b (E.t i) i,r:=E.t i,lst:=upd s.lst (E.t i) (s.c + 1),lv:=upd s.lv (E.t i) ρ,c:=s.c + 1 }
 else s
def Net.pass (E:Net) (ρ:Nat):Nat → Nat → Rz → Rz
 | _,0,s=>s
 | i,k + 1,s=>E.pass ρ (i + 1) k (E.step ρ i s)
def Net.rounds (E:Net):Nat → Nat → Rz → Rz
 | _,0,s=>s
 | ρ,k + 1,s=>if (E.pass ρ 0 E.m { s with r:=-1 }).r < 0 then E.pass ρ 0 E.m { s with r:=-1 } else E.rounds (ρ + 1) k (E.pass ρ 0 E.m { s with r:=-1 })
def Rz.start (t:Nat → Int):Rz:=⟨t,fun _=>-1,-1,fun _=>0,fun _=>0,0⟩
section
variable {E:Net}
theorem Net.step_le (ρ i:Nat) (s:Rz) (j:Nat):s.t j ≤ (E.step ρ i s).t j:=by
 unfold Net.step
 split
 ·simp only [upd]; split
  ·rename_i h1 h2; subst h2; omega
  ·exact Int.le_refl _
 ·exact Int.le_refl _
theorem Net.pass_le (ρ:Nat):∀ (k i:Nat) (s:Rz) (j:Nat),s.t j ≤ (E.pass ρ i k s).t j
 | 0,_,_,_=>Int.le_refl _
 | k + 1,i,s,j=>Int.le_trans (Net.step_le ρ i s j) (Net.pass_le ρ k (i + 1) _ j)
theorem Net.rounds_le:∀ (k ρ:Nat) (s:Rz) (j:Nat),s.t j ≤ (E.rounds ρ k s).t j
 | 0,_,_,_=>Int.le_refl _
 | k + 1,ρ,s,j=>by
   have h1:=Net.pass_le (E:=E) ρ E.m 0 { s with r:=-1 } j
   simp only [Net.rounds]
   split
   ·exact h1
   ·exact Int.le_trans h1 (Net.rounds_le k (ρ + 1) _ j)
theorem Net.step_ub {p:Nat → Int} (hp:E.kept p) {ρ i:Nat} (hi:i < E.m) {s:Rz} (h:∀ j,s.t j ≤ p j) (j:Nat):(E.step ρ i s).t j ≤ p j:=by
 unfold Net.step
 split
 ·simp only [upd]; split
  ·rename_i h2; subst h2
   have:=hp i hi
   have:=h (E.f i)
   omega
  ·exact h j
 ·exact h j
theorem Net.pass_ub {p:Nat → Int} (hp:E.kept p) {ρ:Nat}:∀ (k i:Nat),i + k ≤ E.m → ∀ (s:Rz),(∀ j,s.t j ≤ p j) → ∀ j,(E.pass ρ i k s).t j ≤ p j
 | 0,_,_,_,h=>h
 | k + 1,i,hk,s,h=>Net.pass_ub hp k (i + 1) (by omega) _ (Net.step_ub hp (by omega) h)
theorem Net.rounds_ub {p:Nat → Int} (hp:E.kept p):∀ (k ρ:Nat) (s:Rz),(∀ j,s.t j ≤ p j) → ∀ j,(E.rounds ρ k s).t j ≤ p j
 | 0,_,_,h=>h
 | k + 1,ρ,s,h=>by
   have h1:=Net.pass_ub (ρ:=ρ) hp E.m 0 (by omega) { s with r:=-1 } h
   simp only [Net.rounds]
   split
   ·exact h1
   ·exact Net.rounds_ub hp k (ρ + 1) _ h1
theorem Net.step_r (ρ i:Nat) (s:Rz):((E.step ρ i s).r < 0 → E.step ρ i s = s) ∧ (s.r ≥ 0 → (E.step ρ i s).r ≥ 0):=by
 unfold Net.step
 split
 ·exact ⟨fun h=>by simp only at h; omega,fun _=>by simp only; omega⟩
 ·exact ⟨fun _=>rfl,fun h=>h⟩
theorem Net.pass_kept (ρ:Nat):∀ (k i:Nat) (s:Rz),(E.pass ρ i k s).r < 0 → E.pass ρ i k s = s ∧ ∀ j,i ≤ j → j < i + k → s.t (E.f j) + E.w j ≤ s.t (E.t j)
 | 0,_,_,_=>⟨rfl,fun j h1 h2=>by omega⟩
 | k + 1,i,s,h=>by
   simp only [Net.pass] at h ⊢
   obtain ⟨h1,h2⟩:=Net.pass_kept ρ k (i + 1) _ h
   rw [h1] at h ⊢
   have h3:=(Net.step_r ρ i s).1 h
   rw [h3] at h2 ⊢
   refine ⟨rfl,fun j h4 h5=>?_⟩
   by_cases hj:j = i
   ·subst hj
    unfold Net.step at h3
    split at h3
    ·rename_i hgt
     have:=congrArg Rz.c h3
     simp only at this
     omega
    ·omega
   ·exact h2 j (by omega) (by omega)
theorem Net.rounds_kept:∀ (k ρ:Nat) (s:Rz),0 < k → (E.rounds ρ k s).r < 0 → E.kept (E.rounds ρ k s).t
 | 0,_,_,h,_=>by omega
 | k + 1,ρ,s,_,h=>by
   simp only [Net.rounds] at h ⊢
   split at h
   ·rename_i hr
    rw [if_pos hr]
    obtain ⟨h1,h2⟩:=Net.pass_kept ρ E.m 0 _ hr
    rw [h1]
    exact fun i hi=>h2 i (Nat.zero_le _) (by omega)
   ·rename_i hr
    rw [if_neg hr]
    cases k with
    | zero=>simp only [Net.rounds] at h; exact absurd h hr
    | succ k=>exact Net.rounds_kept (k + 1) (ρ + 1) _ (by omega) h
structure Rz.Inv (E:Net) (s:Rz) (ρ i:Nat):Prop where
 by_:∀ v,0 ≤ s.b v → ∃ e:Nat,s.b v = e ∧ e < E.m ∧ E.t e = v ∧ s.t v ≤ s.t (E.f e) + E.w e ∧ ((s.lst v < s.lst (E.f e) ∨ E.f e = v) → s.t v < s.t (E.f e) + E.w e) ∧ s.lv v ≤ s.lv (E.f e) + 1
 none_:∀ v,s.b v < 0 → s.b v = -1 ∧ s.lst v = 0 ∧ s.lv v = 0
 lst_:∀ v,s.lst v ≤ s.c
 pos_:∀ v,0 ≤ s.b v → 0 < s.lst v
 inj_:∀ u v,0 ≤ s.b u → 0 ≤ s.b v → s.lst u = s.lst v → u = v
 lv_:∀ v,s.lv v ≤ ρ
 past_:∀ j,j < E.m → j < i → s.lv (E.f j) < ρ → s.t (E.f j) + E.w j ≤ s.t (E.t j)
 rest_:∀ j,j < E.m → s.lv (E.f j) + 1 < ρ → s.t (E.f j) + E.w j ≤ s.t (E.t j)
theorem Rz.start_inv (t:Nat → Int):(Rz.start t).Inv E 1 0 where
 by_ v h:=by simp only [Rz.start] at h; omega
 none_ v _:=⟨rfl,rfl,rfl⟩
 lst_ v:=Nat.le_refl _
 pos_ v h:=by simp only [Rz.start] at h; omega
 inj_ u v h:=by simp only [Rz.start] at h; omega
 lv_ v:=Nat.zero_le _
 past_ j _ h:=by omega
 rest_ j _ h:=by omega
theorem Rz.Inv.step {s:Rz} {ρ i:Nat} (I:s.Inv E ρ i) (hi:i < E.m):(E.step ρ i s).Inv E ρ (i + 1):=by
 unfold Net.step
 split
 ·rename_i hgt
  have hlv:ρ ≤ s.lv (E.f i) + 1:=by
   apply Classical.byContradiction
   intro hn
   have:=I.rest_ i hi (by omega)
   omega
  constructor
  ·intro v hv
   by_cases e:v = E.t i
   ·subst e
    refine ⟨i,by simp [upd],hi,rfl,?_,?_,?_⟩
    ·simp only [upd,if_true]
     split
     ·rename_i h; rw [h] at hgt ⊢; omega
     ·exact Int.le_refl _
    ·simp only [upd,if_true]
     rintro (h | h)
     ·split at h
      ·omega
      ·have:=I.lst_ (E.f i); omega
     ·rw [if_pos h,h] ; rw [h] at hgt; omega
    ·simp only [upd,if_true]
     split
     ·omega
     ·exact hlv
   ·simp only [upd,e,if_false] at hv ⊢
    obtain ⟨e',h1,h2,h3,h4,h5,h6⟩:=I.by_ v hv
    refine ⟨e',h1,h2,h3,?_,?_,?_⟩
    ·split
     ·rename_i h; rw [h] at h4; omega
     ·exact h4
    ·intro h
     split at h
     ·rename_i hf
      rw [if_pos hf,]
      rw [hf] at h4
      omega
     ·rename_i hf
      rw [if_neg hf]
      exact h5 h
    ·split
     ·have:=I.lv_ v; omega
     ·exact h6
  ·intro v hv
   by_cases e:v = E.t i
   ·subst e; simp only [upd,if_true] at hv; omega
   ·simp only [upd,e,if_false] at hv ⊢
    exact I.none_ v hv
  ·intro v
   simp only [upd]
   split
   ·exact Nat.le_refl _
   ·have:=I.lst_ v; omega
  ·intro v hv
   by_cases e:v = E.t i
   ·subst e; simp [upd]
   ·simp only [upd,e,if_false] at hv ⊢
    exact I.pos_ v hv
  ·intro u v hu hv h
   by_cases eu:u = E.t i <;> by_cases ev:v = E.t i
   ·rw [eu,ev]
   ·simp only [upd,eu,ev,if_true,if_false] at h
    have:=I.lst_ v; omega
   ·simp only [upd,eu,ev,if_true,if_false] at h
    have:=I.lst_ u; omega
   ·simp only [upd,eu,ev,if_false] at hu hv h
    exact I.inj_ u v hu hv h
  ·intro v
   simp only [upd]
   split
   ·exact Nat.le_refl _
   ·exact I.lv_ v
  ·intro j hj hji hlt
   simp only [upd] at hlt ⊢
   by_cases ef:E.f j = E.t i
   ·rw [if_pos ef] at hlt; omega
   ·rw [if_neg ef] at hlt ⊢
    by_cases hje:j = i
    ·subst hje; simp
    ·have:=I.past_ j hj (by omega) hlt
     split
     ·rename_i h; rw [h] at this; omega
     ·exact this
  ·intro j hj hlt
   simp only [upd] at hlt ⊢
   by_cases ef:E.f j = E.t i
   ·rw [if_pos ef] at hlt; omega
   ·rw [if_neg ef] at hlt ⊢
    have:=I.rest_ j hj hlt
    split
    ·rename_i h; rw [h] at this; omega
    ·exact this
 ·rename_i hle
  exact ⟨I.by_,I.none_,I.lst_,I.pos_,I.inj_,I.lv_,fun j hj hji hlt=>by
   by_cases e:j = i
   ·subst e; omega
   ·exact I.past_ j hj (by omega) hlt,I.rest_⟩
theorem Rz.Inv.pass {ρ:Nat}:∀ (k i:Nat),i + k ≤ E.m → ∀ {s:Rz},s.Inv E ρ i → (E.pass ρ i k s).Inv E ρ (i + k)
 | 0,_,_,_,I=>I
 | k + 1,i,hk,s,I=>by
   have:=Rz.Inv.pass k (i + 1) (by omega) (I.step (by omega))
   rw [show i + 1 + k = i + (k + 1) by omega] at this
   exact this
theorem Rz.Inv.next {s:Rz} {ρ:Nat} (I:s.Inv E ρ E.m):s.Inv E (ρ + 1) 0:=
 ⟨I.by_,I.none_,I.lst_,I.pos_,I.inj_,fun v=>Nat.le_trans (I.lv_ v) (by omega),fun j _ h=>by omega,fun j hj h=>I.past_ j hj hj (by omega)⟩
theorem Rz.Inv.clear {s:Rz} {ρ i:Nat} (I:s.Inv E ρ i) (r:Int):Rz.Inv E { s with r:=r } ρ i:=⟨I.by_,I.none_,I.lst_,I.pos_,I.inj_,I.lv_,I.past_,I.rest_⟩
theorem Net.step_last {ρ i:Nat} {s:Rz} (h:0 ≤ s.r → ∃ v:Nat,s.r = v ∧ s.lv v = ρ ∧ v < E.n) (hE:E.OK) (hi:i < E.m):0 ≤ (E.step ρ i s).r → ∃ v:Nat,(E.step ρ i s).r = v ∧ (E.step ρ i s).lv v = ρ ∧ v < E.n:=by
 unfold Net.step
 split
 ·intro _
  exact ⟨E.t i,rfl,by simp [upd],hE.t i hi⟩
 ·exact h
theorem Net.pass_last (hE:E.OK) {ρ:Nat}:∀ (k i:Nat),i + k ≤ E.m → ∀ (s:Rz),(0 ≤ s.r → ∃ v:Nat,s.r = v ∧ s.lv v = ρ ∧ v < E.n) → 0 ≤ (E.pass ρ i k s).r → ∃ v:Nat,(E.pass ρ i k s).r = v ∧ (E.pass ρ i k s).lv v = ρ ∧ v < E.n
 | 0,_,_,_,h=>h
 | k + 1,i,hk,s,h=>Net.pass_last hE k (i + 1) (by omega) _ (Net.step_last h hE (by omega))
theorem Net.rounds_inv (hE:E.OK):∀ (k ρ:Nat) (s:Rz),0 < ρ → s.Inv E ρ 0 → 0 < k → ∃ ρ',ρ' ≤ ρ + k - 1 ∧ (E.rounds ρ k s).Inv E ρ' E.m ∧ (0 ≤ (E.rounds ρ k s).r → ρ' = ρ + k - 1 ∧ ∃ v:Nat,(E.rounds ρ k s).r = v ∧ (E.rounds ρ k s).lv v = ρ' ∧ v < E.n)
 | 0,_,_,_,_,h=>by omega
 | k + 1,ρ,s,hρ,I,_=>by
   have I1:=Rz.Inv.pass E.m 0 (by omega) (I.clear (-1))
   rw [Nat.zero_add] at I1
   simp only [Net.rounds]
   split
   ·rename_i hr
    exact ⟨ρ,by omega,I1,fun h=>by omega⟩
   ·rename_i hr
    cases k with
    | zero=>
      simp only [Net.rounds]
      exact ⟨ρ,by omega,I1,fun h=>⟨by omega,Net.pass_last hE E.m 0 (by omega) _ (fun h=>by simp only at h; omega) h⟩⟩
    | succ k=>
      obtain ⟨ρ',h1,h2,h3⟩:=Net.rounds_inv hE (k + 1) (ρ + 1) _ (by omega) I1.next (by omega)
      exact ⟨ρ',by omega,h2,fun h=>by obtain ⟨h4,h5⟩:=h3 h; exact ⟨by omega,h5⟩⟩
end
def iter (g:Nat → Nat):Nat → Nat → Nat
 | 0,x=>x
 | k + 1,x=>iter g k (g x)
theorem iter_add (g:Nat → Nat):∀ (a b x:Nat),iter g (a + b) x = iter g b (iter g a x)
 | 0,b,x=>by rw [Nat.zero_add]; rfl
 | a + 1,b,x=>by rw [show a + 1 + b = (a + b) + 1 by omega]; exact iter_add g a b (g x)
theorem iter_succ (g:Nat → Nat) (k x:Nat):iter g (k + 1) x = g (iter g k x):=iter_add g k 1 x
theorem iter_lt {g:Nat → Nat} {n:Nat} (hg:∀ x,x < n → g x < n):∀ (k:Nat) {x:Nat},x < n → iter g k x < n
 | 0,_,h=>h
 | k + 1,_,h=>iter_lt hg k (hg _ h)
theorem exists_rep:∀ {n:Nat} (s:Nat → Nat),(∀ k,k ≤ n → s k < n) → ∃ a c,a < c ∧ c ≤ n ∧ s a = s c
 | 0,s,hs=>by have:=hs 0 (Nat.le_refl _); omega
 | n + 1,s,hs=>by
   by_cases h:∃ a,a ≤ n ∧ s a = s (n + 1)
   ·obtain ⟨a,h1,h2⟩:=h
    exact ⟨a,n + 1,by omega,Nat.le_refl _,h2⟩
   ·have hne:∀ k,k ≤ n → s k ≠ s (n + 1):=fun k hk e=>h ⟨k,hk,e⟩
    have hv:=hs (n + 1) (Nat.le_refl _)
    obtain ⟨a,c,h1,h2,h3⟩:=exists_rep (n:=n) (fun k=>if s k > s (n + 1) then s k - 1 else s k) (fun k hk=>by
     have h4:=hne k hk
     have h5:=hs k (by omega)

     split <;> omega)
    refine ⟨a,c,h1,by omega,?_⟩
    have h4:=hne a (by omega)
    have h5:=hne c h2
    split at h3 <;> split at h3 <;> omega
theorem iter_cycle {n:Nat} {g:Nat → Nat} (hg:∀ x,x < n → g x < n) {x:Nat} (hx:x < n) {K:Nat} (hK:n ≤ K + 1):∃ k,0 < k ∧ k ≤ n ∧ iter g k (iter g K x) = iter g K x:=by
 obtain ⟨a,c,hac,hcn,e⟩:=exists_rep (n:=n) (fun k=>iter g k x) (fun k _=>iter_lt hg k hx)
 refine ⟨c - a,by omega,by omega,?_⟩
 have h1:iter g (c - a) (iter g a x) = iter g a x:=by rw [← iter_add,show a + (c - a) = c by omega]; exact e.symm
 rw [show K = a + (K - a) by omega,iter_add,← iter_add,Nat.add_comm,iter_add,h1]
def sumTo (x:Nat → Int):Nat → Int
 | 0=>0
 | k + 1=>sumTo x k + x k
theorem sumTo_le {x y:Nat → Int}:∀ {k:Nat},(∀ j,j < k → x j ≤ y j) → sumTo x k ≤ sumTo y k
 | 0,_=>Int.le_refl _
 | k + 1,h=>by
   have h1:=sumTo_le (k:=k) fun j hj=>h j (by omega)
   have h2:=h k (by omega)
   simp only [sumTo]; omega
theorem sumTo_lt {x y:Nat → Int}:∀ {k j:Nat},j < k → (∀ i,i < k → x i ≤ y i) → x j < y j → sumTo x k < sumTo y k
 | 0,_,hj,_,_=>by omega
 | k + 1,j,hj,h,hl=>by
   simp only [sumTo]
   by_cases e:j = k
   ·subst e
    have:=sumTo_le (k:=j) fun i hi=>h i (by omega)
    omega
   ·have:=sumTo_lt (k:=k) (j:=j) (by omega) (fun i hi=>h i (by omega)) hl
    have:=h k (by omega)
    omega
theorem sumTo_tele (x:Nat → Int):∀ (k:Nat),sumTo (fun j=>x j - x (j + 1)) k = x 0 - x k
 | 0=>by simp [sumTo]
 | k + 1=>by rw [sumTo,sumTo_tele x k]; omega
theorem exists_max (x:Nat → Nat):∀ (k:Nat),0 < k → ∃ j,j < k ∧ ∀ i,i < k → x i ≤ x j
 | 0,h=>by omega
 | 1,_=>⟨0,by omega,fun i hi=>by rw [show i = 0 by omega]; exact Nat.le_refl _⟩
 | k + 2,_=>by
   obtain ⟨j,h1,h2⟩:=exists_max x (k + 1) (by omega)
   by_cases h:x j ≤ x (k + 1)
   ·refine ⟨k + 1,by omega,fun i hi=>?_⟩
    by_cases e:i = k + 1
    ·rw [e]; exact Nat.le_refl _
    ·exact Nat.le_trans (h2 i (by omega)) h
   ·refine ⟨j,by omega,fun i hi=>?_⟩
    by_cases e:i = k + 1
    ·rw [e]; omega
    ·exact h2 i (by omega)
def Net.back (_:Net) (b:Nat → Int) (d:Nat → Nat) (v:Nat):Nat:=if b v < 0 then d v else (b v).toNat
section
variable {E:Net} {s:Rz} {ρ:Nat} {d:Nat → Nat}
theorem Rz.Inv.walk_lv (I:s.Inv E ρ E.m) {v:Nat}:∀ {k:Nat},k < s.lv v → 0 < s.lv (iter (fun x=>E.f (E.back s.b d x)) k v) ∧ s.lv v ≤ s.lv (iter (fun x=>E.f (E.back s.b d x)) k v) + k
 | 0,h=>⟨h,by simp [iter]⟩
 | k + 1,h=>by
   obtain ⟨h1,h2⟩:=I.walk_lv (k:=k) (v:=v) (by omega)
   rw [iter_succ]
   generalize iter (fun x=>E.f (E.back s.b d x)) k v = u at h1 h2 ⊢
   have hb:0 ≤ s.b u:=by
    apply Classical.byContradiction
    intro hn
    have:=(I.none_ u (by omega)).2.2
    omega
   obtain ⟨e,e1,_,_,_,_,e6⟩:=I.by_ u hb
   have hbk:E.back s.b d u = e:=by unfold Net.back; rw [if_neg (by omega),e1]; rfl
   rw [hbk]
   omega
theorem Rz.Inv.circle (I:s.Inv E ρ E.m) (hE:E.OK) (hd:∀ v,v < E.n → d v < E.m) {v:Nat} (hv:v < E.n) (hlv:s.lv v = ρ) (hρ:ρ = E.n + 1) {K:Nat} (hK:K = E.n + 1) :
    ∃ k, 0 < k ∧ k ≤ E.n ∧ iter (fun x=>E.f (E.back s.b d x)) k (iter (fun x=>E.f (E.back s.b d x)) K v) = iter (fun x=>E.f (E.back s.b d x)) K v ∧
      ∀ j,0 ≤ s.b (iter (fun x=>E.f (E.back s.b d x)) j (iter (fun x=>E.f (E.back s.b d x)) K v)):=by
 have hg:∀ x,x < E.n → E.f (E.back s.b d x) < E.n:=fun x hx=>by
  refine hE.f _ ?_
  unfold Net.back
  split
  ·exact hd x hx
  ·rename_i h
   obtain ⟨e,e1,e2,_⟩:=I.by_ x (by omega)
   rw [e1]; exact e2
 have hpos:∀ k,k ≤ E.n → 0 ≤ s.b (iter (fun x=>E.f (E.back s.b d x)) k v):=fun k hk=>by
  apply Classical.byContradiction
  intro hn
  have h1:=(I.none_ _ (show s.b (iter (fun x=>E.f (E.back s.b d x)) k v) < 0 by omega)).2.2
  have:=(I.walk_lv (d:=d) (v:=v) (k:=k) (by omega)).1
  omega
 obtain ⟨k,k1,k2,k3⟩:=iter_cycle hg hv (K:=K) (by omega)
 refine ⟨k,k1,k2,k3,fun j=>?_⟩
 obtain ⟨a,c,hac,hcn,e⟩:=exists_rep (n:=E.n) (fun k=>iter (fun x=>E.f (E.back s.b d x)) k v) (fun k _=>iter_lt hg k hv)
 -- everything from a on repeats within a .. c - 1
 have hall:∀ i,∃ k,k < c ∧ iter (fun x=>E.f (E.back s.b d x)) i v = iter (fun x=>E.f (E.back s.b d x)) k v:=by
  intro i
  induction i with
  | zero=>exact ⟨0,by omega,rfl⟩
  | succ i ih=>
    obtain ⟨k,h1,h2⟩:=ih
    by_cases hk:k + 1 < c
    ·exact ⟨k + 1,hk,by rw [iter_succ,iter_succ,h2]⟩
    ·refine ⟨a,hac,?_⟩
     have h3:iter (fun x=>E.f (E.back s.b d x)) (k + 1) v = E.f (E.back s.b d (iter (fun x=>E.f (E.back s.b d x)) k v)):=iter_succ _ _ _
     rw [iter_succ,h2,← h3,show k + 1 = c by omega]; exact e.symm
 rw [← iter_add]
 obtain ⟨i,h1,h2⟩:=hall (K + j)
 rw [h2]
 exact hpos i (by omega)
theorem Rz.Inv.weighs (I:s.Inv E ρ E.m) {y k:Nat} (hk:0 < k) (hy:iter (fun x=>E.f (E.back s.b d x)) k y = y) (hb:∀ j,0 ≤ s.b (iter (fun x=>E.f (E.back s.b d x)) j y)) :
    0 < sumTo (fun j=>E.w (E.back s.b d (iter (fun x=>E.f (E.back s.b d x)) j y))) k:=by
 have key:∀ j,s.t (iter (fun x=>E.f (E.back s.b d x)) j y) - s.t (iter (fun x=>E.f (E.back s.b d x)) (j + 1) y) ≤ E.w (E.back s.b d (iter (fun x=>E.f (E.back s.b d x)) j y)) ∧
     ((s.lst (iter (fun x=>E.f (E.back s.b d x)) j y) < s.lst (iter (fun x=>E.f (E.back s.b d x)) (j + 1) y) ∨ iter (fun x=>E.f (E.back s.b d x)) (j + 1) y = iter (fun x=>E.f (E.back s.b d x)) j y) →
       s.t (iter (fun x=>E.f (E.back s.b d x)) j y) - s.t (iter (fun x=>E.f (E.back s.b d x)) (j + 1) y) < E.w (E.back s.b d (iter (fun x=>E.f (E.back s.b d x)) j y))):=by
  intro j
  rw [iter_succ]
  have h0:=hb j
  generalize iter (fun x=>E.f (E.back s.b d x)) j y = u at h0 ⊢
  obtain ⟨e,e1,_,_,e4,e5,_⟩:=I.by_ u h0
  have hbk:E.back s.b d u = e:=by unfold Net.back; rw [if_neg (by omega),e1]; rfl
  rw [hbk]
  exact ⟨by omega,fun h=>by have:=e5 h; omega⟩
 have htele:=sumTo_tele (fun j=>s.t (iter (fun x=>E.f (E.back s.b d x)) j y)) k
 rw [hy] at htele
 have hz:sumTo (fun j=>s.t (iter (fun x=>E.f (E.back s.b d x)) j y) - s.t (iter (fun x=>E.f (E.back s.b d x)) (j + 1) y)) k = 0:=by rw [htele]; simp [iter]
 rw [← hz]
 obtain ⟨j,hj,hmax⟩:=exists_max (fun j=>s.lst (iter (fun x=>E.f (E.back s.b d x)) j y)) k hk
 -- the one ahead of the latest
 have hcase:∃ i,i < k ∧ iter (fun x=>E.f (E.back s.b d x)) (i + 1) y = iter (fun x=>E.f (E.back s.b d x)) j y:=by
  cases j with
  | zero=>exact ⟨k - 1,by omega,by rw [show k - 1 + 1 = k by omega,hy]; rfl⟩
  | succ j=>exact ⟨j,by omega,rfl⟩
 obtain ⟨i,hi,he⟩:=hcase
 refine sumTo_lt hi (fun i _=>(key i).1) ((key i).2 ?_)
 have h1:=hmax i hi
 rw [he]
 by_cases h2:s.lst (iter (fun x=>E.f (E.back s.b d x)) i y) = s.lst (iter (fun x=>E.f (E.back s.b d x)) j y)
 ·exact .inr (I.inj_ _ _ (hb i) (hb j) h2).symm
 ·exact .inl (by omega)
end
end Go.Lite
namespace Go.Proofs.Ytgoedfonmocafaa
open Go.Lite
set_option maxRecDepth 100000
theorem len_allL (n:Int) (l:List (List D)):(allL n l).length = l.length + n.toNat:=by simp [allL,len_extraF]
theorem allL_get1 {n:Int} {l:List (List D)} {i:Nat} (h:i < l.length):(allL n l).getD i [] = l.getD i []:=by
 simp only [allL,List.getD_eq_getElem?_getD]
 rw [List.getElem?_append_left h]
theorem allL_get2 {n:Int} {l:List (List D)} {i:Nat} (h:i < n.toNat):(allL n l).getD (l.length + i) [] = [.i 0,.i (i:Int),.i 0]:=by
 have:=extraF_get (i:=0) (k:=n.toNat) (j:=i) h
 simp only [List.getD_eq_getElem?_getD,Nat.zero_add] at this
 simp only [allL,List.getD_eq_getElem?_getD]
 rw [List.getElem?_append_right (by omega),Nat.add_sub_cancel_left]
 exact this
theorem net_of {n:Int} {l:List (List D)} (h:netP n l):1 ≤ n ∧ n ≤ 500 ∧ l.length ≤ 5000 ∧ ∀ i,i < l.length → (0 ≤ lkF l i ∧ lkF l i < n) ∧ (0 ≤ lkT l i ∧ lkT l i < n) ∧ (-1000000 ≤ lkW l i ∧ lkW l i ≤ 1000000):=by
 simp only [netP,netOk,Bool.and_eq_true,Lite.within_iff,decide_eq_true_eq,allFrom_iff,linkOk,linkP] at h
 obtain ⟨⟨⟨h1,h2⟩,h3⟩,h4⟩:=h
 refine ⟨h1,h2,h3,fun i hi=>?_⟩
 have:=h4 i (Nat.zero_le _) (by omega)
 omega
theorem good_all {n:Int} {l:List (List D)} (h:netP n l):goodL n (allL n l):=by
 obtain ⟨h1,h2,h3,h4⟩:=net_of h
 refine ⟨h1,h2,by rw [len_allL]; omega,fun i hi=>?_⟩
 rw [len_allL] at hi
 by_cases hl:i < l.length
 ·have:=h4 i hl
  unfold lkF lkT lkW at this ⊢
  rw [allL_get1 hl]
  exact this
 ·obtain ⟨j,rfl⟩:∃ j,i = l.length + j:=⟨i - l.length,by omega⟩
  unfold lkF lkT lkW
  rw [allL_get2 (by omega)]
  simp only [ix,List.getD_cons_zero,List.getD_cons_succ,D.I]
  omega
theorem bnd_zeros (n:Int) {M:Int} (h:0 ≤ M):bndR (zeros n) M:=fun j=>by
 unfold zeros
 by_cases hj:j < n.toNat
 ·rw [rg_rep hj]; omega
 ·rw [rg_ge (by simp only [List.length_replicate]; omega)]; omega
theorem len_zeros (n:Int):(zeros n).length = n.toNat:=by simp [zeros]
set_option maxRecDepth 100000
def netN (n:Int) (l:List (List D)):Net:=⟨n.toNat,l.length,fun i=>(lkF l i).toNat,fun i=>(lkT l i).toNat,fun i=>lkW l i⟩
theorem netN_ok {n:Int} {l:List (List D)} (h:goodL n l):(netN n l).OK:=
 ⟨fun i hi=>by have:=(h.2.2.2 i hi).1; show (lkF l i).toNat < n.toNat; omega,fun i hi=>by have:=(h.2.2.2 i hi).2.1; show (lkT l i).toNat < n.toNat; omega⟩
structure SimR (n:Int) (s:RSt) (x:Rz):Prop where
 l1:s.1.length = n.toNat
 l2:s.2.1.length = n.toNat
 t : ∀ j,x.t j = rg s.1 j
 b : ∀ j,j < n.toNat → x.b j = rg s.2.1 j
 r : x.r = s.2.2
theorem sim_step {n:Int} {l:List (List D)} (hl:goodL n l) {i ρ:Nat} (hi:i < l.length) {s:RSt} {x:Rz} (h:SimR n s x):SimR n (stepR l i s) ((netN n l).step ρ i x):=by
 obtain ⟨h1,h2,h3,h4,h5⟩:=h
 obtain ⟨f1,f2,f3⟩:=hl.2.2.2 i hi
 unfold stepR Net.step netN
 simp only [h3]
 by_cases hc:rg s.1 (lkF l i).toNat + lkW l i > rg s.1 (lkT l i).toNat
 ·rw [if_pos hc,if_pos hc]
  refine ⟨by simp only [len_rs]; exact h1,by simp only [len_rs]; exact h2,fun j=>?_,fun j hj=>?_,?_⟩
  ·simp only [upd]
   rw [rg_rs (by omega),h3]
  ·simp only [upd]
   rw [rg_rs (by omega),h4 j hj]
  ·simp only
   omega
 ·rw [if_neg hc,if_neg hc]
  exact ⟨h1,h2,h3,h4,h5⟩
theorem sim_pass {n:Int} {l:List (List D)} (hl:goodL n l) {ρ:Nat}:∀ (k i:Nat),i + k ≤ l.length → ∀ {s:RSt} {x:Rz},SimR n s x → SimR n (passR l i k s) ((netN n l).pass ρ i k x)
 | 0,_,_,_,_,h=>h
 | k + 1,i,hk,_,_,h=>sim_pass hl k (i + 1) (by omega) (sim_step hl (by omega) h)
theorem sim_rounds {n:Int} {l:List (List D)} (hl:goodL n l):∀ (k ρ:Nat) {s:RSt} {x:Rz},SimR n s x → SimR n (roundsR l k s) ((netN n l).rounds ρ k x)
 | 0,_,_,_,h=>h
 | k + 1,ρ,s,x,h=>by
   have h1:=sim_pass hl (ρ:=ρ) l.length 0 (by omega) (s:=(s.1,s.2.1,-1)) (x:={ x with r:=-1 }) ⟨h.l1,h.l2,h.t,h.b,rfl⟩
   simp only [roundsR,Net.rounds]
   have e:((netN n l).pass ρ 0 (netN n l).m { x with r:=-1 }).r = (passR l 0 l.length (s.1,s.2.1,-1)).2.2:=h1.r
   rw [e]
   split
   ·exact h1
   ·exact sim_rounds hl k (ρ + 1) h1
theorem sim_push {n:Int} {l t:List (List D)} (hl:goodL n l) (ht:t.length = n.toNat):SimR n (pushR n l t) ((netN n l).rounds 1 (n.toNat + 1) (Rz.start (rg t))):=
 sim_rounds hl _ _ ⟨ht,by simp,fun _=>rfl,fun j hj=>(rg_rep hj).symm,rfl⟩
theorem kept_push {n:Int} {l t:List (List D)} (hl:goodL n l) (ht:t.length = n.toNat) (hr:(pushR n l t).2.2 < 0):(netN n l).kept (rg (pushR n l t).1):=by
 have h:=sim_push hl ht
 have h1:=Net.rounds_kept (E:=netN n l) (n.toNat + 1) 1 (Rz.start (rg t)) (by omega) (by rw [h.r]; exact hr)
 intro i hi
 have:=h1 i hi
 rw [h.t,h.t] at this
 exact this
theorem push_ub {n:Int} {l t:List (List D)} (hl:goodL n l) (ht:t.length = n.toNat) {p:Nat → Int} (hp:(netN n l).kept p) (h0:∀ j,rg t j ≤ p j) (j:Nat):rg (pushR n l t).1 j ≤ p j:=by
 have h:=sim_push hl ht
 rw [← h.t]
 exact Net.rounds_ub hp _ _ _ h0 j
theorem push_le {n:Int} {l t:List (List D)} (hl:goodL n l) (ht:t.length = n.toNat) (j:Nat):rg t j ≤ rg (pushR n l t).1 j:=by
 have h:=sim_push hl ht
 rw [← h.t]
 exact Net.rounds_le (E:=netN n l) (n.toNat + 1) 1 (Rz.start (rg t)) j
theorem rg_zeros (n:Int) (j:Nat):rg (zeros n) j = 0:=by
 unfold zeros
 by_cases hj:j < n.toNat
 ·exact rg_rep hj
 ·exact rg_ge (by simp only [List.length_replicate]; omega)
theorem kept_first {n:Int} {l:List (List D)} {p:Nat → Int} (hp:(netN n (allL n l)).kept p) {j:Nat} (hj:j < n.toNat):p 0 ≤ p j:=by
 have:=hp (l.length + j) (show l.length + j < (allL n l).length by rw [len_allL]; omega)
 simp only [netN] at this
 unfold lkF lkT lkW at this
 rw [allL_get2 hj] at this
 simp only [ix,List.getD_cons_zero,List.getD_cons_succ,D.I,Int.toNat_natCast,Int.toNat_zero] at this
 omega
theorem push_zero {n:Int} {l:List (List D)} (hp:netP n l) (hr:(pushR n (allL n l) (zeros n)).2.2 < 0):rg (pushR n (allL n l) (zeros n)).1 0 = 0:=by
 have hl:=good_all hp
 have hn:=(net_of hp).1
 have hk:=kept_push hl (len_zeros n) hr
 have h1:=push_ub hl (len_zeros n) (p:=fun j=>if j < n.toNat then rg (pushR n (allL n l) (zeros n)).1 j - rg (pushR n (allL n l) (zeros n)).1 0 else rg (pushR n (allL n l) (zeros n)).1 j) (fun i hi=>by
     have h2:=hk i hi
     have h3:=(netN_ok hl).f i hi
     have h4:=(netN_ok hl).t i hi
     have h3':(netN n (allL n l)).f i < n.toNat:=h3
     have h4':(netN n (allL n l)).t i < n.toNat:=h4
     simp only
     rw [if_pos h3',if_pos h4']
     omega) (fun j=>by
     rw [rg_zeros]
     split
     ·rename_i hj
      have:=kept_first hk hj
      omega
     ·have:=push_le hl (len_zeros n) j
      rw [rg_zeros] at this
      exact this) 0
 rw [if_pos (by omega)] at h1
 have h2:=push_le hl (len_zeros n) 0
 rw [rg_zeros] at h2
 omega
end Go.Proofs.Ytgoedfonmocafaa
namespace Go.Lite
theorem Net.rounds_done {E:Net} (hE:E.OK) (hm:0 < E.m) {p:Nat → Int} (hp:E.kept p) (t:Nat → Int):(E.rounds 1 (E.n + 1) (Rz.start t)).r < 0:=by
 apply Classical.byContradiction
 intro hr
 obtain ⟨ρ',-,I,hI⟩:=Net.rounds_inv hE (E.n + 1) 1 (Rz.start t) (by omega) (Rz.start_inv _) (by omega)
 obtain ⟨hρ,v,hv1,hv2,hv3⟩:=hI (by omega)
 clear hI
 generalize E.rounds 1 (E.n + 1) (Rz.start t) = s at *
 obtain ⟨k,k0,k1,k2,k3⟩:=I.circle (d:=fun _=>0) hE (fun _ _=>hm) hv3 hv2 (by omega) (K:=E.n + 1) rfl
 have hW:=I.weighs k0 k2 k3
 generalize iter (fun x=>E.f (E.back s.b (fun _=>0) x)) (E.n + 1) v = y at *
 have hle:sumTo (fun j=>E.w (E.back s.b (fun _=>0) (iter (fun x=>E.f (E.back s.b (fun _=>0) x)) j y))) k ≤ sumTo (fun j=>p (iter (fun x=>E.f (E.back s.b (fun _=>0) x)) j y) - p (iter (fun x=>E.f (E.back s.b (fun _=>0) x)) (j + 1) y)) k:=by
  refine sumTo_le fun j _=>?_
  rw [iter_succ]
  have h0:=k3 j
  generalize iter (fun x=>E.f (E.back s.b (fun _=>0) x)) j y = u at h0 ⊢
  obtain ⟨e,e1,e2,e3,-⟩:=I.by_ u h0
  have hb:E.back s.b (fun _=>0) u = e:=by unfold Net.back; rw [if_neg (by omega),e1]; rfl
  have:=hp e e2
  simp only [hb]
  rw [e3] at this
  omega
 rw [sumTo_tele (fun j=>p (iter (fun x=>E.f (E.back s.b (fun _=>0) x)) j y)) k,k2] at hle
 simp only [iter] at hle
 omega
end Go.Lite
namespace Go.Proofs.Ytgoedfonmocafaa
open Go.Lite
theorem push_done {n:Int} {l t:List (List D)} (hl:goodL n l) (h0:0 < l.length) (ht:t.length = n.toNat) {p:Nat → Int} (hp:(netN n l).kept p):(pushR n l t).2.2 < 0:=by
 rw [← (sim_push hl ht).r]
 exact Net.rounds_done (E:=netN n l) (netN_ok hl) h0 hp (rg t)
theorem push_least {n:Int} {l:List (List D)} (hp:netP n l) {p:Nat → Int} (hk:(netN n (allL n l)).kept p) (h0:∀ j,0 ≤ p j):(pushR n (allL n l) (zeros n)).2.2 < 0 ∧ ∀ j,rg (pushR n (allL n l) (zeros n)).1 j ≤ p j:=by
 have hl:=good_all hp
 have hla:=len_allL n l
 have hn:=(net_of hp).1
 exact ⟨push_done hl (by omega) (len_zeros n) hk,fun j=>push_ub hl (len_zeros n) hk (fun j=>by rw [rg_zeros]; exact h0 j) j⟩
set_option maxRecDepth 100000
theorem upd2 (c:List D) (x y:D):updC c [x,y] 0 0 (List.length [K.int .i64,K.int .i64]) = [x,y]:=by simp [updC]
def mkF2 (s:Sig) (G:List D → T (List D)) (s':Sig) (G':List D → T (List D)):List SV → T (SV × SHeap):=fun args=>match fitsVs s.args args with
 | some ds=>(G ds).map (headR s.res)
 | none=>match fitsVs s'.args args with
   | some ds=>(G' ds).map (headR s'.res)
   | none=>.fail
theorem fn_two {C:Cfg} {n:Nat} {f:FuncId} {s s':Sig} {G G':List D → T (List D)} (h:FnOK C n f (mkF s G)) (h':FnOK C n f (mkF s' G')):FnOK C n f (mkF2 s G s' G'):=by
 intro args v hb hv avs ha
 unfold mkF2 at hv
 split at hv
 ·rename_i ds hds
  exact h args v hb (by unfold mkF; rw [hds]; exact hv) avs ha
 ·split at hv
  ·rename_i ds hds
   exact h' args v hb (by unfold mkF; rw [hds]; exact hv) avs ha
  ·cases hv
def s138:Sig:=⟨[.agg [.k (.int .i64),.k (.int .i64),.k (.int .i64)]],[(.k .bool,[])]⟩
def s144:Sig:=⟨[.k (.ro [.int .i64,.int .i64,.int .i64]),.fn 138 [] []],[(.k (.int .i64),[])]⟩
def l144_2:LSig:=mkLS [0,1,7,8] [(19,[(0,.k (.ro [.int .i64,.int .i64,.int .i64])),(1,.fn 138 [] []),(7,.k (.int .i64)),(8,.k (.int .i64))],[])] [(.ret,[4],[(19,[(4,.k (.int .i64))],[])]),(.exit 0,[],[(19,[],[])])]
def s137:Sig:=⟨[.k (.ro [.int .i64,.int .i64,.int .i64]),.fn 138 [] []],[(.k .bool,[])]⟩
def s110:Sig:=⟨[.agg [.k (.int .i64),.k (.int .i64),.k (.int .i64),.k (.int .i64),.k .bool,.k (.int .i64),.k (.int .i64),.k (.ro [.int .i64,.int .i64,.int .i64])],.nilp],[(.k .bool,[])]⟩
def s1110:Sig:=⟨[.agg [.k (.int .i64),.k (.int .i64),.k (.int .i64),.k (.int .i64),.k .bool,.k (.int .i64),.k (.int .i64),.k (.ro [.int .i64,.int .i64,.int .i64])],.eptr [.k (.int .i64),.k (.int .i64),.k (.int .i64),.k (.int .i64),.k .bool,.k (.int .i64),.k (.int .i64),.k (.ro [.int .i64,.int .i64,.int .i64])]],[(.k .bool,[])]⟩
def s69:Sig:=⟨[.agg [.k (.int .i64),.k (.int .i64),.k (.ro [.int .i64,.int .i64,.int .i64,.int .i64,.bool,.int .i64,.int .i64,.ro [.int .i64,.int .i64,.int .i64]])]],[(.k (.int .i64),[])]⟩
def l69_5:LSig:=mkLS [1,3,24,25,26] [(40,[(1,.ptr 0 3 0 0),(3,.nilp),(24,.k (.ro [.int .i64,.int .i64,.int .i64,.int .i64,.bool,.int .i64,.int .i64,.ro [.int .i64,.int .i64,.int .i64]])),(25,.k (.int .i64)),(26,.k (.int .i64))],[.box [.k (.int .i64),.k (.int .i64),.k (.ro [.int .i64,.int .i64,.int .i64,.int .i64,.bool,.int .i64,.int .i64,.ro [.int .i64,.int .i64,.int .i64]])]]),(40,[(1,.ptr 0 3 0 0),(3,.eptr [.k (.int .i64),.k (.int .i64),.k (.int .i64),.k (.int .i64),.k .bool,.k (.int .i64),.k (.int .i64),.k (.ro [.int .i64,.int .i64,.int .i64])]),(24,.k (.ro [.int .i64,.int .i64,.int .i64,.int .i64,.bool,.int .i64,.int .i64,.ro [.int .i64,.int .i64,.int .i64]])),(25,.k (.int .i64)),(26,.k (.int .i64))],[.box [.k (.int .i64),.k (.int .i64),.k (.ro [.int .i64,.int .i64,.int .i64,.int .i64,.bool,.int .i64,.int .i64,.ro [.int .i64,.int .i64,.int .i64]])]])] [(.ret,[2],[(40,[(2,.k (.int .i64))],[])]),(.exit 0,[],[(40,[],[])])]
def s118:Sig:=⟨[.k (.int .i64)],[(.k .bool,[])]⟩
def s140:Sig:=⟨[.k (.int .i64),.eptr [.fn 118 [] []]],[(.k .bool,[])]⟩
def s2130:Sig:=⟨[.k (.ro [.int .i64]),.fn 140 [] [.eptr [.fn 118 [] []]]],[(.k (.int .i64),[])]⟩
def l2130_2:LSig:=mkLS [0,1,7,8] [(19,[(0,.k (.ro [.int .i64])),(1,.fn 140 [] [.eptr [.fn 118 [] []]]),(7,.k (.int .i64)),(8,.k (.int .i64))],[])] [(.ret,[4],[(19,[(4,.k (.int .i64))],[])]),(.exit 0,[],[(19,[],[])])]
def s2102:Sig:=⟨[.k (.ro [.int .i64]),.fn 140 [] [.eptr [.fn 118 [] []]]],[(.k .bool,[])]⟩
def s117:Sig:=⟨[.k (.ro [.int .i64]),.fn 118 [] []],[(.k .bool,[])]⟩
def s79:Sig:=⟨[.k (.ro [.int .i64]),.k (.int .i64)],[(.k .bool,[])]⟩
def s85:Sig:=⟨[.agg [.k (.int .i64),.k (.int .i64),.k (.ro [.int .i64,.int .i64,.int .i64,.int .i64,.bool,.int .i64,.int .i64,.ro [.int .i64,.int .i64,.int .i64]])],.k (.int .i64)],[(.k (.int .i64),[])]⟩
def s66:Sig:=⟨[.agg [.k (.int .i64),.k (.int .i64),.k (.ro [.int .i64,.int .i64,.int .i64,.int .i64,.bool,.int .i64,.int .i64,.ro [.int .i64,.int .i64,.int .i64]])]],[(.k .bool,[])]⟩
def l66_4:LSig:=mkLS [1,3] [(143,[(1,.ptr 0 3 0 0),(3,.k (.int .i64))],[.box [.k (.int .i64),.k (.int .i64),.k (.ro [.int .i64,.int .i64,.int .i64,.int .i64,.bool,.int .i64,.int .i64,.ro [.int .i64,.int .i64,.int .i64]])]])] [(.ret,[2],[(143,[(2,.k .bool)],[])]),(.exit 0,[],[(143,[],[])])]
def l66_12:LSig:=mkLS [1,3,4,5] [(143,[(1,.ptr 0 3 0 0),(3,.k (.int .i64)),(4,.ptr 1 8 0 0),(5,.k (.int .i64))],[.box [.k (.int .i64),.k (.int .i64),.k (.ro [.int .i64,.int .i64,.int .i64,.int .i64,.bool,.int .i64,.int .i64,.ro [.int .i64,.int .i64,.int .i64]])],.box [.k (.int .i64),.k (.int .i64),.k (.int .i64),.k (.int .i64),.k .bool,.k (.int .i64),.k (.int .i64),.k (.ro [.int .i64,.int .i64,.int .i64])]])] [(.ret,[2],[(143,[(2,.k .bool)],[])]),(.exit 2,[1,3],[(143,[(1,.ptr 0 3 0 0),(3,.k (.int .i64))],[.box [.k (.int .i64),.k (.int .i64),.k (.ro [.int .i64,.int .i64,.int .i64,.int .i64,.bool,.int .i64,.int .i64,.ro [.int .i64,.int .i64,.int .i64]])]])])]
def s30:Sig:=⟨[.agg [.k (.int .i64),.k (.int .i64),.k (.ro [.int .i64,.int .i64,.int .i64,.int .i64,.bool,.int .i64,.int .i64,.ro [.int .i64,.int .i64,.int .i64]])],.agg [.k (.ro [.int .i64]),.k (.ro [.int .i64]),.k (.ro [.int .i64]),.k (.ro [.int .i64])],.k (.int .i64),.k (.int .i64)],[(.tup [.k (.int .i64),.k (.int .i64),.k (.int .i64)],[])]⟩
def s35:Sig:=⟨[.agg [.k (.int .i64),.k (.int .i64),.k (.ro [.int .i64,.int .i64,.int .i64,.int .i64,.bool,.int .i64,.int .i64,.ro [.int .i64,.int .i64,.int .i64]])],.agg [.k (.ro [.int .i64]),.k (.ro [.int .i64]),.k (.ro [.int .i64]),.k (.ro [.int .i64])]],[(.k .bool,[])]⟩
def l35_5:LSig:=mkLS [2,3,5,58,59,60] [(213,[(2,.ptr 0 3 0 0),(3,.ptr 1 4 0 0),(5,.k (.int .i64)),(58,.k (.ro [.int .i64,.int .i64,.int .i64,.int .i64,.bool,.int .i64,.int .i64,.ro [.int .i64,.int .i64,.int .i64]])),(59,.k (.int .i64)),(60,.k (.int .i64))],[.box [.k (.int .i64),.k (.int .i64),.k (.ro [.int .i64,.int .i64,.int .i64,.int .i64,.bool,.int .i64,.int .i64,.ro [.int .i64,.int .i64,.int .i64]])],.box [.k (.ro [.int .i64]),.k (.ro [.int .i64]),.k (.ro [.int .i64]),.k (.ro [.int .i64])]])] [(.ret,[4],[(213,[(4,.k .bool)],[])]),(.exit 0,[],[(213,[],[])])]
noncomputable section
def hourB (l:List (List D)) (k:Nat):Bool:=decide ((0 ≤ ix (l.getD k []) 0 ∧ ix (l.getD k []) 0 ≤ ix (l.getD k []) 1) ∧ ix (l.getD k []) 1 ≤ 200000 ∧ 0 ≤ ix (l.getD k []) 2 ∧ ix (l.getD k []) 2 ≤ 200000)
def hours (l:List (List D)):Bool:=allFrom (hourB l) 0 l.length
def wayC (c:List D):Bool:=decide ((1 ≤ ix c 0 ∧ ix c 0 ≤ 1000) ∧ (0 ≤ ix c 1 ∧ ix c 1 ≤ 600) ∧ (0 ≤ ix c 2 ∧ ix c 2 ≤ 600) ∧ (1 ≤ ix c 3 ∧ ix c 3 ≤ 60) ∧ (0 ≤ ix c 5 ∧ ix c 5 ≤ ix c 6) ∧ ix c 6 ≤ 1000 ∧ (lx c 7).length ≤ 10)
def grpC (c:List D) (first:Bool) (g:Int):Bool:=if bx c 4 then !first else (decide (ix c 5 = 0 ∧ ix c 6 = 0) && (first || decide (ix c 3 = g)))
def wayB (c:List D) (first:Bool) (g:Int):Bool:=wayC c && (grpC c first g && hours (lx c 7))
def mk8 (a b c d e f g h:D):List D:=[.i a.I,.i b.I,.i c.I,.i d.I,.b e.B,.i f.I,.i g.I,.l h.L]
def wayL (w:List (List D)) (i:Nat):Bool:=wayB (w.getD i []) (i == 0) (ix (w.getD (i - 1) []) 3)
def planH (cars first:Int) (w:List (List D)):Bool:=decide ((1 ≤ cars ∧ cars ≤ 200) ∧ (1 ≤ w.length ∧ w.length ≤ 60) ∧ 0 ≤ first ∧ first ≤ 100000)
def planB (cars first:Int) (w:List (List D)):Bool:=planH cars first w && allFrom (wayL w) 0 w.length
def timeL (l:List (List D)) (i:Nat):Bool:=decide (0 ≤ rg l i ∧ rg l i ≤ 1000000000)
def timedB (l:List (List D)) (n:Int):Bool:=decide ((l.length:Int) = n) && allFrom (timeL l) 0 l.length
def G138 (ds:List D):T (List D):=match ds with
 | [a,b,c]=>.leaf [.b (!decide ((0 ≤ a.I ∧ a.I ≤ b.I) ∧ b.I ≤ 200000 ∧ 0 ≤ c.I ∧ c.I ≤ 200000))]
 | _=>.fail
def G144 (ds:List D):T (List D):=match ds with
 | [l]=>.need (yes (l.L.length < big)) (.leaf [.i (firstFrom (fun j=>!hourB l.L j) 0 l.L.length)])
 | _=>.fail
def G144_2 (ds:List D):T (Ex × List D):=match ds with
 | [l, m,i]=>.need (yes (l.L.length < big ∧ m.I = l.L.length ∧ 0 ≤ i.I ∧ i.I ≤ l.L.length))
     (.ite (decide (firstFrom (fun j=>!hourB l.L j) i.I.toNat (l.L.length - i.I.toNat) ≥ 0)) (.leaf (.ret,[.i (firstFrom (fun j=>!hourB l.L j) i.I.toNat (l.L.length - i.I.toNat))])) (.leaf (.exit 0,[])))
 | _=>.fail
def G137 (ds:List D):T (List D):=match ds with
 | [l]=>.need (yes (l.L.length < big)) (.leaf [.b (!hours l.L)])
 | _=>.fail
def G110 (ds:List D):T (List D):=match ds with
 | [a,b,c,d,e,f,g,h]=>.leaf [.b (wayB (mk8 a b c d e f g h) true 0)]
 | _=>.fail
def G1110 (ds:List D):T (List D):=match ds with
 | [a,b,c,d,e,f,g,h,_,_,_,p,_,_,_,_]=>.leaf [.b (wayB (mk8 a b c d e f g h) false p.I)]
 | _=>.fail
def G69 (ds:List D):T (List D):=match ds with
 | [c,f,w]=>.leaf [.i (if planB c.I f.I w.L then 0 else 2)]
 | _=>.fail
def G69_5 (ds:List D):T (Ex × List D):=match ds with
 | [j,w,m,i,_,_,w']=>.need (yes (j.I = 0 ∧ w'.L = w.L ∧ w.L.length ≤ 60 ∧ m.I = w.L.length ∧ i.I = 0)) (.ite (allFrom (wayL w.L) 0 w.L.length) (.leaf (.exit 0,[])) (.leaf (.ret,[.i 2])))
 | [j, _,_,_,g,_,_,_,_,w,m,i,_,_,w']=>.need (yes (j.I = 1 ∧ w'.L = w.L ∧ w.L.length ≤ 60 ∧ m.I = w.L.length ∧ 1 ≤ i.I ∧ i.I ≤ w.L.length ∧ g.I = ix (w.L.getD (i.I.toNat - 1) []) 3))
     (.ite (allFrom (wayL w.L) i.I.toNat (w.L.length - i.I.toNat)) (.leaf (.exit 0,[])) (.leaf (.ret,[.i 2])))
 | _=>.fail
def G118 (ds:List D):T (List D):=match ds with
 | [t]=>.leaf [.b (within t.I 0 1000000000)]
 | _=>.fail
def G140 (ds:List D):T (List D):=match ds with
 | [t]=>.leaf [.b (!within t.I 0 1000000000)]
 | _=>.fail
def G2130 (ds:List D):T (List D):=match ds with
 | [l]=>.need (yes (l.L.length < big)) (.leaf [.i (firstFrom (fun j=>!timeL l.L j) 0 l.L.length)])
 | _=>.fail
def G2130_2 (ds:List D):T (Ex × List D):=match ds with
 | [l, m,i]=>.need (yes (l.L.length < big ∧ m.I = l.L.length ∧ 0 ≤ i.I ∧ i.I ≤ l.L.length))
     (.ite (decide (firstFrom (fun j=>!timeL l.L j) i.I.toNat (l.L.length - i.I.toNat) ≥ 0)) (.leaf (.ret,[.i (firstFrom (fun j=>!timeL l.L j) i.I.toNat (l.L.length - i.I.toNat))])) (.leaf (.exit 0,[])))
 | _=>.fail
def G2102 (ds:List D):T (List D):=match ds with
 | [l]=>.need (yes (l.L.length < big)) (.leaf [.b (!allFrom (timeL l.L) 0 l.L.length)])
 | _=>.fail
def G117 (ds:List D):T (List D):=match ds with
 | [l]=>.need (yes (l.L.length < big)) (.leaf [.b (allFrom (timeL l.L) 0 l.L.length)])
 | _=>.fail
def G79 (ds:List D):T (List D):=match ds with
 | [l,n]=>.need (yes (l.L.length < big)) (.leaf [.b (timedB l.L n.I)])
 | _=>.fail
def spanF (cars:Int) (c:List D):Int:=(cars - 1) * ix c 3
def busyF (cars:Int) (c:List D):Int:=spanF cars c + ix c 0 + ix c 2
def G85 (ds:List D):T (List D):=match ds with
 | [c,f,w,j]=>.need (yes (planB c.I f.I w.L = true ∧ 0 ≤ j.I ∧ j.I < w.L.length)) (.leaf [.i (busyF c.I (w.L.getD j.I.toNat []))])
 | _=>.fail
end
noncomputable section
def G66 (ds:List D):T (List D):=match ds with
 | [c,f,w]=>.leaf [.b (planB c.I f.I w.L)]
 | _=>.fail
def G66_4 (ds:List D):T (Ex × List D):=match ds with
 | [i,_,_,w]=>.need (yes (w.L.length ≤ 60 ∧ 0 ≤ i.I ∧ i.I ≤ w.L.length)) (.ite (allFrom (wayL w.L) i.I.toNat (w.L.length - i.I.toNat)) (.leaf (.exit 0,[])) (.leaf (.ret,[.b false])))
 | _=>.fail
def G66_12 (ds:List D):T (Ex × List D):=match ds with
 | [i,k,c,f,w,_,_,_,_,_,_,_,h]=>.need (yes (h.L.length ≤ 10 ∧ 0 ≤ k.I ∧ k.I ≤ h.L.length)) (.ite (allFrom (hourB h.L) k.I.toNat (h.L.length - k.I.toNat)) (.leaf (.exit 2,[.i i.I,.i c.I,.i f.I,.l w.L])) (.leaf (.ret,[.b false])))
 | _=>.fail
def nextB (c:Int) (w du:List (List D)) (j:Nat):Bool:=
 if j + 1 < w.length ∧ bx (w.getD (j + 1) []) 4 = true then decide (rg du j + ix (w.getD j []) 0 + spanF c (w.getD j []) + ix (w.getD (j + 1) []) 5 ≤ rg du (j + 1) ∧ rg du (j + 1) ≤ rg du j + ix (w.getD j []) 0 + spanF c (w.getD j []) + ix (w.getD (j + 1) []) 6)
 else decide (rg du (j + 1) = rg du j + ix (w.getD j []) 0)
def nextR (c:Int) (w du:List (List D)) (j:Nat):Bool:=j == 0 || nextB c w du (j - 1)
def choB (h:List (List D)) (cl op ch:Int):Bool:=
 if h.length = 0 then decide (ch = -1) else decide ((0 ≤ ch ∧ ch ≤ (h.length:Int) - 1) ∧ ix (h.getD ch.toNat []) 0 ≤ cl ∧ op ≤ ix (h.getD ch.toNat []) 1 ∧ op - cl ≤ ix (h.getD ch.toNat []) 2)
def restB (c:Int) (w du cl op ch:List (List D)) (j:Nat):Bool:=decide (rg cl j ≤ rg du j - ix (w.getD j []) 1 ∧ rg du j + busyF c (w.getD j []) ≤ rg op j) && choB (lx (w.getD j []) 7) (rg cl j) (rg op j) (rg ch j)
def fitH (f:Int) (du cl op ch:List (List D)) (r:Nat):Bool:=timedB du (r + 1) && (timedB cl r && (timedB op r && decide (ch.length = r ∧ f ≤ rg du 0)))
def fitsR (c f:Int) (w du cl op ch:List (List D)):Bool:=fitH f du cl op ch w.length && (allFrom (nextR c w du) 0 (w.length + 1) && allFrom (restB c w du cl op ch) 0 w.length)
def fitsP (c f:Int) (w du cl op ch:List (List D)):Bool:=planB c f w && (fitH f du cl op ch w.length && allFrom (fun j=>nextB c w du j && restB c w du cl op ch j) 0 w.length)
def okT (c f:Int) (w du cl op ch:List (List D)):Prop:=planB c f w = true ∧ fitH f du cl op ch w.length = true
def dueB (c f:Int) (w du:List (List D)) (car at':Int):Bool:=planB c f w && (timedB du (w.length + 1) && decide ((0 ≤ car ∧ car ≤ c - 1) ∧ 0 ≤ at' ∧ at' ≤ (w.length:Int) - 1))
def dueF (w du:List (List D)) (car:Int) (k:Nat):Int:=rg du k + car * ix (w.getD k []) 3
def G30 (ds:List D):T (List D):=match ds with
 | [c,f,w,du,_,_,_,car,k]=>.need (yes (du.L.length < big)) (.ite (dueB c.I f.I w.L du.L car.I k.I) (.leaf [.i (dueF w.L du.L car.I k.I.toNat),.i (dueF w.L du.L car.I k.I.toNat + ix (w.L.getD k.I.toNat []) 0),.i 0]) (.leaf [.i 0,.i 0,.i 2]))
 | _=>.fail
end
noncomputable section
def bothB (c:Int) (w du cl op ch:List (List D)) (j:Nat):Bool:=nextB c w du j && restB c w du cl op ch j
def G35 (ds:List D):T (List D):=match ds with
 | [c,f,w,du,cl,op,ch]=>.need (yes (du.L.length < big ∧ cl.L.length < big ∧ op.L.length < big ∧ ch.L.length < big)) (.leaf [.b (fitsP c.I f.I w.L du.L cl.L op.L ch.L)])
 | _=>.fail
def G35_5 (ds:List D):T (Ex × List D):=match ds with
 | [n, w,m,i,c,f,w',du,cl,op,ch]=>.need (yes (okT c.I f.I w.L du.L cl.L op.L ch.L ∧ w'.L = w.L ∧ n.I = w.L.length ∧ m.I = w.L.length ∧ 0 ≤ i.I ∧ i.I ≤ w.L.length))
     (.ite (allFrom (bothB c.I w.L du.L cl.L op.L ch.L) i.I.toNat (w.L.length - i.I.toNat)) (.leaf (.exit 0,[])) (.leaf (.ret,[.b false])))
 | _=>.fail
end
noncomputable def sp138:SpL:=[(80,mkF s80 G80)]
noncomputable def lp138:LpL:=[]
noncomputable def sw138:SwL:=[]
noncomputable def tab138:Tab:=mkTab sp138 lp138 sw138
noncomputable def sp144:SpL:=[(138,mkF s138 G138)]
noncomputable def lp144:LpL:=[(2,mkL l144_2 G144_2)]
noncomputable def sw144:SwL:=[]
noncomputable def tab144:Tab:=mkTab sp144 lp144 sw144
noncomputable def sp137:SpL:=[(144,mkF s144 G144),(138,mkF s138 G138)]
noncomputable def lp137:LpL:=[]
noncomputable def sw137:SwL:=[]
noncomputable def tab137:Tab:=mkTab sp137 lp137 sw137
noncomputable def sp110:SpL:=[(80,mkF s80 G80),(137,mkF s137 G137)]
noncomputable def lp110:LpL:=[]
noncomputable def sw110:SwL:=[]
noncomputable def tab110:Tab:=mkTab sp110 lp110 sw110
noncomputable def sp1110:SpL:=[(80,mkF s80 G80),(137,mkF s137 G137)]
noncomputable def lp1110:LpL:=[]
noncomputable def sw1110:SwL:=[]
noncomputable def tab1110:Tab:=mkTab sp1110 lp1110 sw1110
noncomputable def sp69:SpL:=[(80,mkF s80 G80),(110,mkF2 s110 G110 s1110 G1110)]
noncomputable def lp69:LpL:=[(5,mkL l69_5 G69_5)]
noncomputable def sw69:SwL:=[]
noncomputable def tab69:Tab:=mkTab sp69 lp69 sw69
noncomputable def sp118:SpL:=[(80,mkF s80 G80)]
noncomputable def lp118:LpL:=[]
noncomputable def sw118:SwL:=[]
noncomputable def tab118:Tab:=mkTab sp118 lp118 sw118
noncomputable def sp140:SpL:=[(118,mkF s118 G118)]
noncomputable def lp140:LpL:=[]
noncomputable def sw140:SwL:=[]
noncomputable def tab140:Tab:=mkTab sp140 lp140 sw140
noncomputable def sp2130:SpL:=[(140,mkF s140 G140),(118,mkF s118 G118)]
noncomputable def lp2130:LpL:=[(2,mkL l2130_2 G2130_2)]
noncomputable def sw2130:SwL:=[]
noncomputable def tab2130:Tab:=mkTab sp2130 lp2130 sw2130
noncomputable def sp2102:SpL:=[(130,mkF s2130 G2130),(140,mkF s140 G140),(118,mkF s118 G118)]
noncomputable def lp2102:LpL:=[]
noncomputable def sw2102:SwL:=[]
noncomputable def tab2102:Tab:=mkTab sp2102 lp2102 sw2102
noncomputable def sp117:SpL:=[(102,mkF s2102 G2102),(118,mkF s118 G118),(140,mkF s140 G140)]
noncomputable def lp117:LpL:=[]
noncomputable def sw117:SwL:=[]
noncomputable def tab117:Tab:=mkTab sp117 lp117 sw117
noncomputable def sp79:SpL:=[(117,mkF s117 G117)]
noncomputable def lp79:LpL:=[]
noncomputable def sw79:SwL:=[]
noncomputable def tab79:Tab:=mkTab sp79 lp79 sw79
noncomputable def sp85:SpL:=[]
noncomputable def lp85:LpL:=[]
noncomputable def sw85:SwL:=[]
noncomputable def tab85:Tab:=mkTab sp85 lp85 sw85
noncomputable def sp66:SpL:=[(106,mkF s106 G106)]
noncomputable def lp66:LpL:=[(4,mkL l66_4 G66_4),(12,mkL l66_12 G66_12)]
noncomputable def sw66:SwL:=[]
noncomputable def tab66:Tab:=mkTab sp66 lp66 sw66
noncomputable def sp30:SpL:=[(69,mkF s69 G69),(79,mkF s79 G79),(80,mkF s80 G80)]
noncomputable def lp30:LpL:=[]
noncomputable def sw30:SwL:=[]
noncomputable def tab30:Tab:=mkTab sp30 lp30 sw30
noncomputable def sp35:SpL:=[(69,mkF s69 G69),(79,mkF s79 G79),(80,mkF s80 G80),(85,mkF s85 G85)]
noncomputable def lp35:LpL:=[(5,mkL l35_5 G35_5)]
noncomputable def sw35:SwL:=[]
noncomputable def tab35:Tab:=mkTab sp35 lp35 sw35
set_option linter.unusedVariables false
set_option maxRecDepth 100000
theorem t35 (a b c d e f g:D):fnT C tab35 35 s35 [a,b,c,d,e,f,g] =
 T.ite ((if planB a.I b.I c.L = true then (0:Int) else (2:Int)) != (0:Int)) (T.leaf [D.b false]) (T.need (yes (d.L.length < big)) (T.ite (!timedB d.L (IntKind.i64.wrap ((c.L.length:Int) + (1:Int)))) (T.leaf [D.b false]) (T.need (yes (e.L.length < big)) (T.ite (!timedB e.L (c.L.length:Int)) (T.leaf [D.b false]) (T.need (yes (f.L.length < big)) (T.ite (!timedB f.L (c.L.length:Int)) (T.leaf [D.b false]) (T.ite ((g.L.length:Int) != (c.L.length:Int)) (T.leaf [D.b false]) (T.need (decide ((0:Int) ≤ (0:Int) ∧ (0:Int) < (d.L.length:Int))) (T.ite (decide (D.I (List.getD (List.getD d.L (Int.toNat (0:Int)) []) 0 default) < b.I)) (T.leaf [D.b false]) (T.need (yes (okT a.I b.I c.L d.L e.L f.L g.L ∧ c.L = c.L ∧ (c.L.length:Int) = (c.L.length:Int) ∧ (c.L.length:Int) = (c.L.length:Int) ∧ (0:Int) ≤ (0:Int) ∧ (0:Int) ≤ (c.L.length:Int))) (T.ite (allFrom (bothB a.I c.L d.L e.L f.L g.L) (Int.toNat (0:Int)) (c.L.length - Int.toNat (0:Int))) (T.leaf [D.b true]) (T.leaf [D.b false])))))))))))):=by kernel_rfl
theorem t35_5 (a b c d e f g h i j k:D):roundT C tab35 35 (loopOf C.P 35 5) l35_5 [a,b,c,d,e,f,g,h,i,j,k] =
 T.ite (decide (d.I < c.I)) (T.need (decide ((0:Int) ≤ d.I ∧ d.I < (b.L.length:Int))) (T.need (decide ((0:Int) ≤ d.I ∧ d.I < (h.L.length:Int))) (T.need (decide ((0:Int) ≤ IntKind.i64.wrap (d.I + (1:Int)) ∧ IntKind.i64.wrap (d.I + (1:Int)) < (h.L.length:Int))) (T.ite (decide (IntKind.i64.wrap (d.I + (1:Int)) < a.I)) (T.need (decide ((0:Int) ≤ IntKind.i64.wrap (d.I + (1:Int)) ∧ IntKind.i64.wrap (d.I + (1:Int)) < (g.L.length:Int))) (T.ite (D.B (List.getD (List.getD g.L (Int.toNat (IntKind.i64.wrap (d.I + (1:Int)))) []) (0 + 1 + 1 + 1 + 1) default)) (T.need (decide ((0:Int) ≤ IntKind.i64.wrap (d.I + (1:Int)) ∧ IntKind.i64.wrap (d.I + (1:Int)) < (g.L.length:Int))) (T.need (decide ((0:Int) ≤ IntKind.i64.wrap (d.I + (1:Int)) ∧ IntKind.i64.wrap (d.I + (1:Int)) < (g.L.length:Int))) (T.ite (!within (D.I (List.getD (List.getD h.L (Int.toNat (IntKind.i64.wrap (d.I + (1:Int)))) []) 0 default)) (IntKind.i64.wrap (IntKind.i64.wrap (IntKind.i64.wrap (D.I (List.getD (List.getD h.L d.I.toNat []) 0 default) + D.I (List.getD (List.getD b.L d.I.toNat []) 0 default)) + IntKind.i64.wrap (IntKind.i64.wrap (e.I - (1:Int)) * D.I (List.getD (List.getD b.L d.I.toNat []) (0 + 1 + 1 + 1) default))) + D.I (List.getD (List.getD g.L (Int.toNat (IntKind.i64.wrap (d.I + (1:Int)))) []) (0 + 1 + 1 + 1 + 1 + 1) default))) (IntKind.i64.wrap (IntKind.i64.wrap (IntKind.i64.wrap (D.I (List.getD (List.getD h.L d.I.toNat []) 0 default) + D.I (List.getD (List.getD b.L d.I.toNat []) 0 default)) + IntKind.i64.wrap (IntKind.i64.wrap (e.I - (1:Int)) * D.I (List.getD (List.getD b.L d.I.toNat []) (0 + 1 + 1 + 1) default))) + D.I (List.getD (List.getD g.L (Int.toNat (IntKind.i64.wrap (d.I + (1:Int)))) []) (0 + 1 + 1 + 1 + 1 + 1 + 1) default)))) (T.leaf (Rd.out Ex.ret [D.b false])) (T.need (decide ((0:Int) ≤ d.I ∧ d.I < (i.L.length:Int))) (T.need (decide ((0:Int) ≤ d.I ∧ d.I < (h.L.length:Int))) (T.ite (decide (D.I (List.getD (List.getD i.L d.I.toNat []) 0 default) > IntKind.i64.wrap (D.I (List.getD (List.getD h.L d.I.toNat []) 0 default) - D.I (List.getD (List.getD b.L d.I.toNat []) (0 + 1) default)))) (T.leaf (Rd.out Ex.ret [D.b false])) (T.need (decide ((0:Int) ≤ d.I ∧ d.I < (j.L.length:Int))) (T.need (decide ((0:Int) ≤ d.I ∧ d.I < (h.L.length:Int))) (T.need (yes (planB e.I f.I g.L = true ∧ (0:Int) ≤ d.I ∧ d.I < (g.L.length:Int))) (T.ite (decide (D.I (List.getD (List.getD j.L d.I.toNat []) 0 default) < IntKind.i64.wrap (D.I (List.getD (List.getD h.L d.I.toNat []) 0 default) + busyF e.I (List.getD g.L d.I.toNat [])))) (T.leaf (Rd.out Ex.ret [D.b false])) (T.need (decide ((0:Int) ≤ d.I ∧ d.I < (k.L.length:Int))) (T.ite ((↑(List.length (D.L (List.getD (List.getD b.L d.I.toNat []) (0 + 1 + 1 + 1 + 1 + 1 + 1 + 1) default))):Int) == (0:Int)) (T.ite (D.I (List.getD (List.getD k.L d.I.toNat []) 0 default) != (-1:Int)) (T.leaf (Rd.out Ex.ret [D.b false])) (T.leaf (Rd.again [D.i a.I,D.l b.L,D.i c.I,D.i (IntKind.i64.wrap (d.I + (1:Int))),D.i e.I,D.i f.I,D.l g.L,D.l h.L,D.l i.L,D.l j.L,D.l k.L]))) (T.ite (!within (D.I (List.getD (List.getD k.L d.I.toNat []) 0 default)) (0:Int) (IntKind.i64.wrap ((↑(List.length (D.L (List.getD (List.getD b.L d.I.toNat []) (0 + 1 + 1 + 1 + 1 + 1 + 1 + 1) default))):Int) - (1:Int)))) (T.leaf (Rd.out Ex.ret [D.b false])) (T.need (decide ((0:Int) ≤ D.I (List.getD (List.getD k.L d.I.toNat []) 0 default) ∧ D.I (List.getD (List.getD k.L d.I.toNat []) 0 default) < (↑(List.length (D.L (List.getD (List.getD b.L d.I.toNat []) (0 + 1 + 1 + 1 + 1 + 1 + 1 + 1) default))):Int))) (T.need (decide ((0:Int) ≤ d.I ∧ d.I < (i.L.length:Int))) (T.ite (decide (D.I (List.getD (List.getD i.L d.I.toNat []) 0 default) < D.I (List.getD (List.getD (D.L (List.getD (List.getD b.L d.I.toNat []) (0 + 1 + 1 + 1 + 1 + 1 + 1 + 1) default)) (Int.toNat (D.I (List.getD (List.getD k.L d.I.toNat []) 0 default))) []) 0 default))) (T.leaf (Rd.out Ex.ret [D.b false])) (T.need (decide ((0:Int) ≤ d.I ∧ d.I < (j.L.length:Int))) (T.ite (decide (D.I (List.getD (List.getD j.L d.I.toNat []) 0 default) > D.I (List.getD (List.getD (D.L (List.getD (List.getD b.L d.I.toNat []) (0 + 1 + 1 + 1 + 1 + 1 + 1 + 1) default)) (Int.toNat (D.I (List.getD (List.getD k.L d.I.toNat []) 0 default))) []) (0 + 1) default))) (T.leaf (Rd.out Ex.ret [D.b false])) (T.need (decide ((0:Int) ≤ d.I ∧ d.I < (j.L.length:Int))) (T.need (decide ((0:Int) ≤ d.I ∧ d.I < (i.L.length:Int))) (T.ite (decide (IntKind.i64.wrap (D.I (List.getD (List.getD j.L d.I.toNat []) 0 default) - D.I (List.getD (List.getD i.L d.I.toNat []) 0 default)) > D.I (List.getD (List.getD (D.L (List.getD (List.getD b.L d.I.toNat []) (0 + 1 + 1 + 1 + 1 + 1 + 1 + 1) default)) (Int.toNat (D.I (List.getD (List.getD k.L d.I.toNat []) 0 default))) []) (0 + 1 + 1) default))) (T.leaf (Rd.out Ex.ret [D.b false])) (T.leaf (Rd.again [D.i a.I,D.l b.L,D.i c.I,D.i (IntKind.i64.wrap (d.I + (1:Int))),D.i e.I,D.i f.I,D.l g.L,D.l h.L,D.l i.L,D.l j.L,D.l k.L]))))))))))))))))))))))) (T.ite (D.I (List.getD (List.getD h.L (Int.toNat (IntKind.i64.wrap (d.I + (1:Int)))) []) 0 default) != IntKind.i64.wrap (D.I (List.getD (List.getD h.L d.I.toNat []) 0 default) + D.I (List.getD (List.getD b.L d.I.toNat []) 0 default))) (T.leaf (Rd.out Ex.ret [D.b false])) (T.need (decide ((0:Int) ≤ d.I ∧ d.I < (i.L.length:Int))) (T.need (decide ((0:Int) ≤ d.I ∧ d.I < (h.L.length:Int))) (T.ite (decide (D.I (List.getD (List.getD i.L d.I.toNat []) 0 default) > IntKind.i64.wrap (D.I (List.getD (List.getD h.L d.I.toNat []) 0 default) - D.I (List.getD (List.getD b.L d.I.toNat []) (0 + 1) default)))) (T.leaf (Rd.out Ex.ret [D.b false])) (T.need (decide ((0:Int) ≤ d.I ∧ d.I < (j.L.length:Int))) (T.need (decide ((0:Int) ≤ d.I ∧ d.I < (h.L.length:Int))) (T.need (yes (planB e.I f.I g.L = true ∧ (0:Int) ≤ d.I ∧ d.I < (g.L.length:Int))) (T.ite (decide (D.I (List.getD (List.getD j.L d.I.toNat []) 0 default) < IntKind.i64.wrap (D.I (List.getD (List.getD h.L d.I.toNat []) 0 default) + busyF e.I (List.getD g.L d.I.toNat [])))) (T.leaf (Rd.out Ex.ret [D.b false])) (T.need (decide ((0:Int) ≤ d.I ∧ d.I < (k.L.length:Int))) (T.ite ((↑(List.length (D.L (List.getD (List.getD b.L d.I.toNat []) (0 + 1 + 1 + 1 + 1 + 1 + 1 + 1) default))):Int) == (0:Int)) (T.ite (D.I (List.getD (List.getD k.L d.I.toNat []) 0 default) != (-1:Int)) (T.leaf (Rd.out Ex.ret [D.b false])) (T.leaf (Rd.again [D.i a.I,D.l b.L,D.i c.I,D.i (IntKind.i64.wrap (d.I + (1:Int))),D.i e.I,D.i f.I,D.l g.L,D.l h.L,D.l i.L,D.l j.L,D.l k.L]))) (T.ite (!within (D.I (List.getD (List.getD k.L d.I.toNat []) 0 default)) (0:Int) (IntKind.i64.wrap ((↑(List.length (D.L (List.getD (List.getD b.L d.I.toNat []) (0 + 1 + 1 + 1 + 1 + 1 + 1 + 1) default))):Int) - (1:Int)))) (T.leaf (Rd.out Ex.ret [D.b false])) (T.need (decide ((0:Int) ≤ D.I (List.getD (List.getD k.L d.I.toNat []) 0 default) ∧ D.I (List.getD (List.getD k.L d.I.toNat []) 0 default) < (↑(List.length (D.L (List.getD (List.getD b.L d.I.toNat []) (0 + 1 + 1 + 1 + 1 + 1 + 1 + 1) default))):Int))) (T.need (decide ((0:Int) ≤ d.I ∧ d.I < (i.L.length:Int))) (T.ite (decide (D.I (List.getD (List.getD i.L d.I.toNat []) 0 default) < D.I (List.getD (List.getD (D.L (List.getD (List.getD b.L d.I.toNat []) (0 + 1 + 1 + 1 + 1 + 1 + 1 + 1) default)) (Int.toNat (D.I (List.getD (List.getD k.L d.I.toNat []) 0 default))) []) 0 default))) (T.leaf (Rd.out Ex.ret [D.b false])) (T.need (decide ((0:Int) ≤ d.I ∧ d.I < (j.L.length:Int))) (T.ite (decide (D.I (List.getD (List.getD j.L d.I.toNat []) 0 default) > D.I (List.getD (List.getD (D.L (List.getD (List.getD b.L d.I.toNat []) (0 + 1 + 1 + 1 + 1 + 1 + 1 + 1) default)) (Int.toNat (D.I (List.getD (List.getD k.L d.I.toNat []) 0 default))) []) (0 + 1) default))) (T.leaf (Rd.out Ex.ret [D.b false])) (T.need (decide ((0:Int) ≤ d.I ∧ d.I < (j.L.length:Int))) (T.need (decide ((0:Int) ≤ d.I ∧ d.I < (i.L.length:Int))) (T.ite (decide (IntKind.i64.wrap (D.I (List.getD (List.getD j.L d.I.toNat []) 0 default) - D.I (List.getD (List.getD i.L d.I.toNat []) 0 default)) > D.I (List.getD (List.getD (D.L (List.getD (List.getD b.L d.I.toNat []) (0 + 1 + 1 + 1 + 1 + 1 + 1 + 1) default)) (Int.toNat (D.I (List.getD (List.getD k.L d.I.toNat []) 0 default))) []) (0 + 1 + 1) default))) (T.leaf (Rd.out Ex.ret [D.b false])) (T.leaf (Rd.again [D.i a.I,D.l b.L,D.i c.I,D.i (IntKind.i64.wrap (d.I + (1:Int))),D.i e.I,D.i f.I,D.l g.L,D.l h.L,D.l i.L,D.l j.L,D.l k.L]))))))))))))))))))))))) (T.ite (D.I (List.getD (List.getD h.L (Int.toNat (IntKind.i64.wrap (d.I + (1:Int)))) []) 0 default) != IntKind.i64.wrap (D.I (List.getD (List.getD h.L d.I.toNat []) 0 default) + D.I (List.getD (List.getD b.L d.I.toNat []) 0 default))) (T.leaf (Rd.out Ex.ret [D.b false])) (T.need (decide ((0:Int) ≤ d.I ∧ d.I < (i.L.length:Int))) (T.need (decide ((0:Int) ≤ d.I ∧ d.I < (h.L.length:Int))) (T.ite (decide (D.I (List.getD (List.getD i.L d.I.toNat []) 0 default) > IntKind.i64.wrap (D.I (List.getD (List.getD h.L d.I.toNat []) 0 default) - D.I (List.getD (List.getD b.L d.I.toNat []) (0 + 1) default)))) (T.leaf (Rd.out Ex.ret [D.b false])) (T.need (decide ((0:Int) ≤ d.I ∧ d.I < (j.L.length:Int))) (T.need (decide ((0:Int) ≤ d.I ∧ d.I < (h.L.length:Int))) (T.need (yes (planB e.I f.I g.L = true ∧ (0:Int) ≤ d.I ∧ d.I < (g.L.length:Int))) (T.ite (decide (D.I (List.getD (List.getD j.L d.I.toNat []) 0 default) < IntKind.i64.wrap (D.I (List.getD (List.getD h.L d.I.toNat []) 0 default) + busyF e.I (List.getD g.L d.I.toNat [])))) (T.leaf (Rd.out Ex.ret [D.b false])) (T.need (decide ((0:Int) ≤ d.I ∧ d.I < (k.L.length:Int))) (T.ite ((↑(List.length (D.L (List.getD (List.getD b.L d.I.toNat []) (0 + 1 + 1 + 1 + 1 + 1 + 1 + 1) default))):Int) == (0:Int)) (T.ite (D.I (List.getD (List.getD k.L d.I.toNat []) 0 default) != (-1:Int)) (T.leaf (Rd.out Ex.ret [D.b false])) (T.leaf (Rd.again [D.i a.I,D.l b.L,D.i c.I,D.i (IntKind.i64.wrap (d.I + (1:Int))),D.i e.I,D.i f.I,D.l g.L,D.l h.L,D.l i.L,D.l j.L,D.l k.L]))) (T.ite (!within (D.I (List.getD (List.getD k.L d.I.toNat []) 0 default)) (0:Int) (IntKind.i64.wrap ((↑(List.length (D.L (List.getD (List.getD b.L d.I.toNat []) (0 + 1 + 1 + 1 + 1 + 1 + 1 + 1) default))):Int) - (1:Int)))) (T.leaf (Rd.out Ex.ret [D.b false])) (T.need (decide ((0:Int) ≤ D.I (List.getD (List.getD k.L d.I.toNat []) 0 default) ∧ D.I (List.getD (List.getD k.L d.I.toNat []) 0 default) < (↑(List.length (D.L (List.getD (List.getD b.L d.I.toNat []) (0 + 1 + 1 + 1 + 1 + 1 + 1 + 1) default))):Int))) (T.need (decide ((0:Int) ≤ d.I ∧ d.I < (i.L.length:Int))) (T.ite (decide (D.I (List.getD (List.getD i.L d.I.toNat []) 0 default) < D.I (List.getD (List.getD (D.L (List.getD (List.getD b.L d.I.toNat []) (0 + 1 + 1 + 1 + 1 + 1 + 1 + 1) default)) (Int.toNat (D.I (List.getD (List.getD k.L d.I.toNat []) 0 default))) []) 0 default))) (T.leaf (Rd.out Ex.ret [D.b false])) (T.need (decide ((0:Int) ≤ d.I ∧ d.I < (j.L.length:Int))) (T.ite (decide (D.I (List.getD (List.getD j.L d.I.toNat []) 0 default) > D.I (List.getD (List.getD (D.L (List.getD (List.getD b.L d.I.toNat []) (0 + 1 + 1 + 1 + 1 + 1 + 1 + 1) default)) (Int.toNat (D.I (List.getD (List.getD k.L d.I.toNat []) 0 default))) []) (0 + 1) default))) (T.leaf (Rd.out Ex.ret [D.b false])) (T.need (decide ((0:Int) ≤ d.I ∧ d.I < (j.L.length:Int))) (T.need (decide ((0:Int) ≤ d.I ∧ d.I < (i.L.length:Int))) (T.ite (decide (IntKind.i64.wrap (D.I (List.getD (List.getD j.L d.I.toNat []) 0 default) - D.I (List.getD (List.getD i.L d.I.toNat []) 0 default)) > D.I (List.getD (List.getD (D.L (List.getD (List.getD b.L d.I.toNat []) (0 + 1 + 1 + 1 + 1 + 1 + 1 + 1) default)) (Int.toNat (D.I (List.getD (List.getD k.L d.I.toNat []) 0 default))) []) (0 + 1 + 1) default))) (T.leaf (Rd.out Ex.ret [D.b false])) (T.leaf (Rd.again [D.i a.I,D.l b.L,D.i c.I,D.i (IntKind.i64.wrap (d.I + (1:Int))),D.i e.I,D.i f.I,D.l g.L,D.l h.L,D.l i.L,D.l j.L,D.l k.L]))))))))))))))))))))))))) (T.leaf (Rd.out (Ex.exit 0) [])):=by kernel_rfl
set_option linter.unusedVariables false
set_option maxRecDepth 100000
theorem t66 (a b c:D):fnT C tab66 66 s66 [a,b,c] =
 T.ite (!within a.I (1:Int) (200:Int)) (T.leaf [D.b false]) (T.ite (!within (c.L.length:Int) (1:Int) (60:Int)) (T.leaf [D.b false]) (T.ite (!within b.I (0:Int) (100000:Int)) (T.leaf [D.b false]) (T.need (yes (c.L.length ≤ 60 ∧ (0:Int) ≤ (0:Int) ∧ (0:Int) ≤ (c.L.length:Int))) (T.ite (allFrom (wayL c.L) (Int.toNat (0:Int)) (c.L.length - Int.toNat (0:Int))) (T.leaf [D.b true]) (T.leaf [D.b false]))))):=by kernel_rfl
theorem t66_4 (a b c d:D):roundT C tab66 66 (loopOf C.P 66 4) l66_4 [a,b,c,d] =
 T.ite (decide (a.I < (d.L.length:Int))) (T.need (decide ((0:Int) ≤ a.I ∧ a.I < (d.L.length:Int))) (T.ite (!within (D.I (List.getD (List.getD d.L a.I.toNat []) 0 default)) (1:Int) (1000:Int)) (T.leaf (Rd.out Ex.ret [D.b false])) (T.ite (!within (D.I (List.getD (List.getD d.L a.I.toNat []) (0 + 1) default)) (0:Int) (600:Int)) (T.leaf (Rd.out Ex.ret [D.b false])) (T.ite (!within (D.I (List.getD (List.getD d.L a.I.toNat []) (0 + 1 + 1) default)) (0:Int) (600:Int)) (T.leaf (Rd.out Ex.ret [D.b false])) (T.ite (!within (D.I (List.getD (List.getD d.L a.I.toNat []) (0 + 1 + 1 + 1) default)) (1:Int) (60:Int)) (T.leaf (Rd.out Ex.ret [D.b false])) (T.ite (decide ((↑(List.length (D.L (List.getD (List.getD d.L a.I.toNat []) (0 + 1 + 1 + 1 + 1 + 1 + 1 + 1) default))):Int) > (10:Int))) (T.leaf (Rd.out Ex.ret [D.b false])) (T.ite (!within (D.I (List.getD (List.getD d.L a.I.toNat []) (0 + 1 + 1 + 1 + 1 + 1) default)) (0:Int) (D.I (List.getD (List.getD d.L a.I.toNat []) (0 + 1 + 1 + 1 + 1 + 1 + 1) default))) (T.leaf (Rd.out Ex.ret [D.b false])) (T.ite (decide (D.I (List.getD (List.getD d.L a.I.toNat []) (0 + 1 + 1 + 1 + 1 + 1 + 1) default) > (1000:Int))) (T.leaf (Rd.out Ex.ret [D.b false])) (T.ite (a.I == (0:Int)) (T.ite (D.B (List.getD (List.getD d.L a.I.toNat []) (0 + 1 + 1 + 1 + 1) default)) (T.leaf (Rd.out Ex.ret [D.b false])) (T.ite (!D.B (List.getD (List.getD d.L a.I.toNat []) (0 + 1 + 1 + 1 + 1) default)) (T.ite (D.I (List.getD (List.getD d.L a.I.toNat []) (0 + 1 + 1 + 1 + 1 + 1) default) != (0:Int)) (T.leaf (Rd.out Ex.ret [D.b false])) (T.ite (D.I (List.getD (List.getD d.L a.I.toNat []) (0 + 1 + 1 + 1 + 1 + 1 + 1) default) != (0:Int)) (T.leaf (Rd.out Ex.ret [D.b false])) (T.ite (decide (a.I > (0:Int))) (T.need (decide ((0:Int) ≤ IntKind.i64.wrap (a.I - (1:Int)) ∧ IntKind.i64.wrap (a.I - (1:Int)) < (d.L.length:Int))) (T.ite (D.I (List.getD (List.getD d.L a.I.toNat []) (0 + 1 + 1 + 1) default) != D.I (List.getD (List.getD d.L (Int.toNat (IntKind.i64.wrap (a.I - (1:Int)))) []) (0 + 1 + 1 + 1) default)) (T.leaf (Rd.out Ex.ret [D.b false])) (T.need (yes (List.length (D.L (List.getD (List.getD d.L a.I.toNat []) (0 + 1 + 1 + 1 + 1 + 1 + 1 + 1) default)) ≤ 10 ∧ (0:Int) ≤ (0:Int) ∧ (0:Int) ≤ (↑(List.length (D.L (List.getD (List.getD d.L a.I.toNat []) (0 + 1 + 1 + 1 + 1 + 1 + 1 + 1) default))):Int))) (T.ite (allFrom (hourB (D.L (List.getD (List.getD d.L a.I.toNat []) (0 + 1 + 1 + 1 + 1 + 1 + 1 + 1) default))) (Int.toNat (0:Int)) (List.length (D.L (List.getD (List.getD d.L a.I.toNat []) (0 + 1 + 1 + 1 + 1 + 1 + 1 + 1) default)) - Int.toNat (0:Int))) (T.leaf (Rd.again [D.i (IntKind.i64.wrap (a.I + (1:Int))),D.i b.I,D.i c.I,D.l d.L])) (T.leaf (Rd.out Ex.ret [D.b false])))))) (T.need (yes (List.length (D.L (List.getD (List.getD d.L a.I.toNat []) (0 + 1 + 1 + 1 + 1 + 1 + 1 + 1) default)) ≤ 10 ∧ (0:Int) ≤ (0:Int) ∧ (0:Int) ≤ (↑(List.length (D.L (List.getD (List.getD d.L a.I.toNat []) (0 + 1 + 1 + 1 + 1 + 1 + 1 + 1) default))):Int))) (T.ite (allFrom (hourB (D.L (List.getD (List.getD d.L a.I.toNat []) (0 + 1 + 1 + 1 + 1 + 1 + 1 + 1) default))) (Int.toNat (0:Int)) (List.length (D.L (List.getD (List.getD d.L a.I.toNat []) (0 + 1 + 1 + 1 + 1 + 1 + 1 + 1) default)) - Int.toNat (0:Int))) (T.leaf (Rd.again [D.i (IntKind.i64.wrap (a.I + (1:Int))),D.i b.I,D.i c.I,D.l d.L])) (T.leaf (Rd.out Ex.ret [D.b false]))))))) (T.need (yes (List.length (D.L (List.getD (List.getD d.L a.I.toNat []) (0 + 1 + 1 + 1 + 1 + 1 + 1 + 1) default)) ≤ 10 ∧ (0:Int) ≤ (0:Int) ∧ (0:Int) ≤ (↑(List.length (D.L (List.getD (List.getD d.L a.I.toNat []) (0 + 1 + 1 + 1 + 1 + 1 + 1 + 1) default))):Int))) (T.ite (allFrom (hourB (D.L (List.getD (List.getD d.L a.I.toNat []) (0 + 1 + 1 + 1 + 1 + 1 + 1 + 1) default))) (Int.toNat (0:Int)) (List.length (D.L (List.getD (List.getD d.L a.I.toNat []) (0 + 1 + 1 + 1 + 1 + 1 + 1 + 1) default)) - Int.toNat (0:Int))) (T.leaf (Rd.again [D.i (IntKind.i64.wrap (a.I + (1:Int))),D.i b.I,D.i c.I,D.l d.L])) (T.leaf (Rd.out Ex.ret [D.b false])))))) (T.ite (!D.B (List.getD (List.getD d.L a.I.toNat []) (0 + 1 + 1 + 1 + 1) default)) (T.ite (D.I (List.getD (List.getD d.L a.I.toNat []) (0 + 1 + 1 + 1 + 1 + 1) default) != (0:Int)) (T.leaf (Rd.out Ex.ret [D.b false])) (T.ite (D.I (List.getD (List.getD d.L a.I.toNat []) (0 + 1 + 1 + 1 + 1 + 1 + 1) default) != (0:Int)) (T.leaf (Rd.out Ex.ret [D.b false])) (T.ite (decide (a.I > (0:Int))) (T.need (decide ((0:Int) ≤ IntKind.i64.wrap (a.I - (1:Int)) ∧ IntKind.i64.wrap (a.I - (1:Int)) < (d.L.length:Int))) (T.ite (D.I (List.getD (List.getD d.L a.I.toNat []) (0 + 1 + 1 + 1) default) != D.I (List.getD (List.getD d.L (Int.toNat (IntKind.i64.wrap (a.I - (1:Int)))) []) (0 + 1 + 1 + 1) default)) (T.leaf (Rd.out Ex.ret [D.b false])) (T.need (yes (List.length (D.L (List.getD (List.getD d.L a.I.toNat []) (0 + 1 + 1 + 1 + 1 + 1 + 1 + 1) default)) ≤ 10 ∧ (0:Int) ≤ (0:Int) ∧ (0:Int) ≤ (↑(List.length (D.L (List.getD (List.getD d.L a.I.toNat []) (0 + 1 + 1 + 1 + 1 + 1 + 1 + 1) default))):Int))) (T.ite (allFrom (hourB (D.L (List.getD (List.getD d.L a.I.toNat []) (0 + 1 + 1 + 1 + 1 + 1 + 1 + 1) default))) (Int.toNat (0:Int)) (List.length (D.L (List.getD (List.getD d.L a.I.toNat []) (0 + 1 + 1 + 1 + 1 + 1 + 1 + 1) default)) - Int.toNat (0:Int))) (T.leaf (Rd.again [D.i (IntKind.i64.wrap (a.I + (1:Int))),D.i b.I,D.i c.I,D.l d.L])) (T.leaf (Rd.out Ex.ret [D.b false])))))) (T.need (yes (List.length (D.L (List.getD (List.getD d.L a.I.toNat []) (0 + 1 + 1 + 1 + 1 + 1 + 1 + 1) default)) ≤ 10 ∧ (0:Int) ≤ (0:Int) ∧ (0:Int) ≤ (↑(List.length (D.L (List.getD (List.getD d.L a.I.toNat []) (0 + 1 + 1 + 1 + 1 + 1 + 1 + 1) default))):Int))) (T.ite (allFrom (hourB (D.L (List.getD (List.getD d.L a.I.toNat []) (0 + 1 + 1 + 1 + 1 + 1 + 1 + 1) default))) (Int.toNat (0:Int)) (List.length (D.L (List.getD (List.getD d.L a.I.toNat []) (0 + 1 + 1 + 1 + 1 + 1 + 1 + 1) default)) - Int.toNat (0:Int))) (T.leaf (Rd.again [D.i (IntKind.i64.wrap (a.I + (1:Int))),D.i b.I,D.i c.I,D.l d.L])) (T.leaf (Rd.out Ex.ret [D.b false]))))))) (T.need (yes (List.length (D.L (List.getD (List.getD d.L a.I.toNat []) (0 + 1 + 1 + 1 + 1 + 1 + 1 + 1) default)) ≤ 10 ∧ (0:Int) ≤ (0:Int) ∧ (0:Int) ≤ (↑(List.length (D.L (List.getD (List.getD d.L a.I.toNat []) (0 + 1 + 1 + 1 + 1 + 1 + 1 + 1) default))):Int))) (T.ite (allFrom (hourB (D.L (List.getD (List.getD d.L a.I.toNat []) (0 + 1 + 1 + 1 + 1 + 1 + 1 + 1) default))) (Int.toNat (0:Int)) (List.length (D.L (List.getD (List.getD d.L a.I.toNat []) (0 + 1 + 1 + 1 + 1 + 1 + 1 + 1) default)) - Int.toNat (0:Int))) (T.leaf (Rd.again [D.i (IntKind.i64.wrap (a.I + (1:Int))),D.i b.I,D.i c.I,D.l d.L])) (T.leaf (Rd.out Ex.ret [D.b false])))))))))))))) (T.leaf (Rd.out (Ex.exit 0) [])):=by kernel_rfl
theorem t66_12 (a b c d e f g h i j k l m:D):roundT C tab66 66 (loopOf C.P 66 12) l66_12 [a,b,c,d,e,f,g,h,i,j,k,l,m] =
 T.ite (decide (b.I < (m.L.length:Int))) (T.need (decide ((0:Int) ≤ b.I ∧ b.I < (m.L.length:Int))) (T.ite (!within (D.I (List.getD (List.getD m.L b.I.toNat []) 0 default)) (0:Int) (D.I (List.getD (List.getD m.L b.I.toNat []) (0 + 1) default))) (T.leaf (Rd.out Ex.ret [D.b false])) (T.ite (decide (D.I (List.getD (List.getD m.L b.I.toNat []) (0 + 1) default) > (200000:Int))) (T.leaf (Rd.out Ex.ret [D.b false])) (T.ite (!within (D.I (List.getD (List.getD m.L b.I.toNat []) (0 + 1 + 1) default)) (0:Int) (200000:Int)) (T.leaf (Rd.out Ex.ret [D.b false])) (T.leaf (Rd.again [D.i a.I,D.i (IntKind.i64.wrap (b.I + (1:Int))),D.i c.I,D.i d.I,D.l e.L,D.i f.I,D.i g.I,D.i h.I,D.i i.I,D.b j.B,D.i k.I,D.i l.I,D.l m.L])))))) (T.leaf (Rd.out (Ex.exit 2) [D.i a.I,D.i c.I,D.i d.I,D.l e.L])):=by kernel_rfl
theorem t30 (a b c d e f g h i:D):fnT C tab30 30 s30 [a,b,c,d,e,f,g,h,i] =
 T.ite ((if planB a.I b.I c.L = true then (0:Int) else (2:Int)) != (0:Int)) (T.leaf [D.i 0,D.i 0,D.i 2]) (T.need (yes (d.L.length < big)) (T.ite (!timedB d.L (IntKind.i64.wrap ((c.L.length:Int) + (1:Int)))) (T.leaf [D.i 0,D.i 0,D.i 2]) (T.ite (!within h.I (0:Int) (IntKind.i64.wrap (a.I - (1:Int)))) (T.leaf [D.i 0,D.i 0,D.i 2]) (T.ite (!within i.I (0:Int) (IntKind.i64.wrap ((c.L.length:Int) - (1:Int)))) (T.leaf [D.i 0,D.i 0,D.i 2]) (T.need (decide ((0:Int) ≤ i.I ∧ i.I < (d.L.length:Int))) (T.need (decide ((0:Int) ≤ i.I ∧ i.I < (c.L.length:Int))) (T.need (decide ((0:Int) ≤ i.I ∧ i.I < (c.L.length:Int))) (T.leaf [D.i (IntKind.i64.wrap (D.I (List.getD (List.getD d.L i.I.toNat []) 0 default) + IntKind.i64.wrap (h.I * D.I (List.getD (List.getD c.L i.I.toNat []) (0 + 1 + 1 + 1) default)))),D.i (IntKind.i64.wrap (IntKind.i64.wrap (D.I (List.getD (List.getD d.L i.I.toNat []) 0 default) + IntKind.i64.wrap (h.I * D.I (List.getD (List.getD c.L i.I.toNat []) (0 + 1 + 1 + 1) default))) + D.I (List.getD (List.getD c.L i.I.toNat []) 0 default))),D.i 0])))))))):=by kernel_rfl
set_option linter.unusedVariables false
set_option maxRecDepth 100000
theorem t138 (a b c:D):fnT C tab138 138 s138 [a,b,c] =
 T.ite (decide (a.I < (0:Int))) (T.leaf [D.b true]) (T.ite (decide (a.I > b.I)) (T.leaf [D.b true]) (T.ite (decide (b.I > (200000:Int))) (T.leaf [D.b true]) (T.leaf [D.b !within c.I (0:Int) (200000:Int)]))):=by kernel_rfl
theorem t144 (a:D):fnT C tab144 144 s144 [a] =
 T.need (yes (a.L.length < big ∧ (a.L.length:Int) = (a.L.length:Int) ∧ (0:Int) ≤ (0:Int) ∧ (0:Int) ≤ (a.L.length:Int))) (T.ite (decide (firstFrom (fun j=>!hourB a.L j) (Int.toNat (0:Int)) (a.L.length - Int.toNat (0:Int)) ≥ (0:Int))) (T.leaf [D.i (firstFrom (fun j=>!hourB a.L j) (Int.toNat (0:Int)) (a.L.length - Int.toNat (0:Int)))]) (T.leaf [D.i (-1:Int)])):=by kernel_rfl
theorem t144_2 (a b c:D):roundT C tab144 144 (loopOf C.P 144 2) l144_2 [a,b,c] =
 T.ite (decide (c.I < b.I)) (T.need (decide ((0:Int) ≤ c.I ∧ c.I < (a.L.length:Int))) (T.ite (!decide (((0:Int) ≤ D.I (List.getD (List.getD a.L c.I.toNat []) 0 default) ∧ D.I (List.getD (List.getD a.L c.I.toNat []) 0 default) ≤ D.I (List.getD (List.getD a.L c.I.toNat []) (0 + 1) default)) ∧ D.I (List.getD (List.getD a.L c.I.toNat []) (0 + 1) default) ≤ (200000:Int) ∧ (0:Int) ≤ D.I (List.getD (List.getD a.L c.I.toNat []) (0 + 1 + 1) default) ∧ D.I (List.getD (List.getD a.L c.I.toNat []) (0 + 1 + 1) default) ≤ (200000:Int))) (T.leaf (Rd.out Ex.ret [D.i c.I])) (T.leaf (Rd.again [D.l a.L,D.i b.I,D.i (IntKind.i64.wrap (c.I + (1:Int)))])))) (T.leaf (Rd.out (Ex.exit 0) [])):=by kernel_rfl
theorem t137 (a:D):fnT C tab137 137 s137 [a] =
 T.need (yes (a.L.length < big)) (T.leaf [D.b (decide (firstFrom (fun j=>!hourB a.L j) 0 a.L.length ≥ (0:Int)))]):=by kernel_rfl
theorem t110 (a b c d e f g h:D):fnT C tab110 110 s110 [a,b,c,d,e,f,g,h] =
 T.ite (!within a.I (1:Int) (1000:Int)) (T.leaf [D.b false]) (T.ite (!within b.I (0:Int) (600:Int)) (T.leaf [D.b false]) (T.ite (!within c.I (0:Int) (600:Int)) (T.leaf [D.b false]) (T.ite (!within d.I (1:Int) (60:Int)) (T.leaf [D.b false]) (T.ite (!within f.I (0:Int) (1000:Int)) (T.leaf [D.b false]) (T.ite (!within g.I f.I (1000:Int)) (T.leaf [D.b false]) (T.ite (decide ((h.L.length:Int) > (10:Int))) (T.leaf [D.b false]) (T.ite true (T.ite e.B (T.leaf [D.b false]) (T.ite (!e.B) (T.ite (f.I != (0:Int)) (T.leaf [D.b false]) (T.ite (g.I != (0:Int)) (T.leaf [D.b false]) (T.ite false T.fail (T.need (yes (h.L.length < big)) (T.leaf [D.b !!hours h.L]))))) (T.need (yes (h.L.length < big)) (T.leaf [D.b !!hours h.L])))) (T.ite (!e.B) (T.ite (f.I != (0:Int)) (T.leaf [D.b false]) (T.ite (g.I != (0:Int)) (T.leaf [D.b false]) (T.ite false T.fail (T.need (yes (h.L.length < big)) (T.leaf [D.b !!hours h.L]))))) (T.need (yes (h.L.length < big)) (T.leaf [D.b !!hours h.L])))))))))):=by kernel_rfl
theorem t1110 (a b c d e f g h i j k l m n o p:D):fnT C tab1110 110 s1110 [a,b,c,d,e,f,g,h,i,j,k,l,m,n,o,p] =
 T.ite (!within a.I (1:Int) (1000:Int)) (T.leaf [D.b false]) (T.ite (!within b.I (0:Int) (600:Int)) (T.leaf [D.b false]) (T.ite (!within c.I (0:Int) (600:Int)) (T.leaf [D.b false]) (T.ite (!within d.I (1:Int) (60:Int)) (T.leaf [D.b false]) (T.ite (!within f.I (0:Int) (1000:Int)) (T.leaf [D.b false]) (T.ite (!within g.I f.I (1000:Int)) (T.leaf [D.b false]) (T.ite (decide ((h.L.length:Int) > (10:Int))) (T.leaf [D.b false]) (T.ite false (T.ite e.B (T.leaf [D.b false]) (T.ite (!e.B) (T.ite (f.I != (0:Int)) (T.leaf [D.b false]) (T.ite (g.I != (0:Int)) (T.leaf [D.b false]) (T.ite true (T.ite (d.I != l.I) (T.leaf [D.b false]) (T.need (yes (h.L.length < big)) (T.leaf [D.b !!hours h.L]))) (T.need (yes (h.L.length < big)) (T.leaf [D.b !!hours h.L]))))) (T.need (yes (h.L.length < big)) (T.leaf [D.b !!hours h.L])))) (T.ite (!e.B) (T.ite (f.I != (0:Int)) (T.leaf [D.b false]) (T.ite (g.I != (0:Int)) (T.leaf [D.b false]) (T.ite true (T.ite (d.I != l.I) (T.leaf [D.b false]) (T.need (yes (h.L.length < big)) (T.leaf [D.b !!hours h.L]))) (T.need (yes (h.L.length < big)) (T.leaf [D.b !!hours h.L]))))) (T.need (yes (h.L.length < big)) (T.leaf [D.b !!hours h.L])))))))))):=by kernel_rfl
theorem t69 (a b c:D):fnT C tab69 69 s69 [a,b,c] =
 T.ite (!within a.I (1:Int) (200:Int)) (T.leaf [D.i 2]) (T.ite (!within (c.L.length:Int) (1:Int) (60:Int)) (T.leaf [D.i 2]) (T.ite (!within b.I (0:Int) (100000:Int)) (T.leaf [D.i 2]) (T.need (yes ((↑0:Int) = (0:Int) ∧ c.L = c.L ∧ c.L.length ≤ 60 ∧ (c.L.length:Int) = (c.L.length:Int) ∧ (0:Int) = (0:Int))) (T.ite (allFrom (wayL c.L) 0 c.L.length) (T.leaf [D.i 0]) (T.leaf [D.i 2]))))):=by kernel_rfl
theorem t69_5_0 (a b c d e f:D):roundT C tab69 69 (loopOf C.P 69 5) l69_5 [.i 0,a,b,c,d,e,f] =
 T.ite (decide (c.I < b.I)) (T.need (decide ((0:Int) ≤ c.I ∧ c.I < (a.L.length:Int))) (T.ite (!wayB (mk8 (D.i (D.I (List.getD (List.getD a.L c.I.toNat []) 0 default))) (D.i (D.I (List.getD (List.getD a.L c.I.toNat []) (0 + 1) default))) (D.i (D.I (List.getD (List.getD a.L c.I.toNat []) (0 + 1 + 1) default))) (D.i (D.I (List.getD (List.getD a.L c.I.toNat []) (0 + 1 + 1 + 1) default))) (D.b (D.B (List.getD (List.getD a.L c.I.toNat []) (0 + 1 + 1 + 1 + 1) default))) (D.i (D.I (List.getD (List.getD a.L c.I.toNat []) (0 + 1 + 1 + 1 + 1 + 1) default))) (D.i (D.I (List.getD (List.getD a.L c.I.toNat []) (0 + 1 + 1 + 1 + 1 + 1 + 1) default))) (D.l (D.L (List.getD (List.getD a.L c.I.toNat []) (0 + 1 + 1 + 1 + 1 + 1 + 1 + 1) default)))) true (0:Int)) (T.leaf (Rd.out Ex.ret [D.i 2])) (T.need (decide ((0:Int) ≤ c.I ∧ c.I < (f.L.length:Int))) (T.leaf (Rd.again [D.i 1,D.i (D.I (List.getD (List.getD f.L c.I.toNat []) 0 default)),D.i (D.I (List.getD (List.getD f.L c.I.toNat []) (0 + 1) default)),D.i (D.I (List.getD (List.getD f.L c.I.toNat []) (0 + 1 + 1) default)),D.i (D.I (List.getD (List.getD f.L c.I.toNat []) (0 + 1 + 1 + 1) default)),D.b (D.B (List.getD (List.getD f.L c.I.toNat []) (0 + 1 + 1 + 1 + 1) default)),D.i (D.I (List.getD (List.getD f.L c.I.toNat []) (0 + 1 + 1 + 1 + 1 + 1) default)),D.i (D.I (List.getD (List.getD f.L c.I.toNat []) (0 + 1 + 1 + 1 + 1 + 1 + 1) default)),D.l (D.L (List.getD (List.getD f.L c.I.toNat []) (0 + 1 + 1 + 1 + 1 + 1 + 1 + 1) default)),D.l a.L,D.i b.I,D.i (IntKind.i64.wrap (c.I + (1:Int))),D.i d.I,D.i e.I,D.l f.L]))))) (T.leaf (Rd.out (Ex.exit 0) [])):=by kernel_rfl
theorem t69_5_1 (a b c d e f g h i j k l m n:D):roundT C tab69 69 (loopOf C.P 69 5) l69_5 [.i 1,a,b,c,d,e,f,g,h,i,j,k,l,m,n] =
 T.ite (decide (k.I < j.I)) (T.need (decide ((0:Int) ≤ k.I ∧ k.I < (i.L.length:Int))) (T.ite (!wayB (mk8 (D.i (D.I (List.getD (List.getD i.L k.I.toNat []) 0 default))) (D.i (D.I (List.getD (List.getD i.L k.I.toNat []) (0 + 1) default))) (D.i (D.I (List.getD (List.getD i.L k.I.toNat []) (0 + 1 + 1) default))) (D.i (D.I (List.getD (List.getD i.L k.I.toNat []) (0 + 1 + 1 + 1) default))) (D.b (D.B (List.getD (List.getD i.L k.I.toNat []) (0 + 1 + 1 + 1 + 1) default))) (D.i (D.I (List.getD (List.getD i.L k.I.toNat []) (0 + 1 + 1 + 1 + 1 + 1) default))) (D.i (D.I (List.getD (List.getD i.L k.I.toNat []) (0 + 1 + 1 + 1 + 1 + 1 + 1) default))) (D.l (D.L (List.getD (List.getD i.L k.I.toNat []) (0 + 1 + 1 + 1 + 1 + 1 + 1 + 1) default)))) false d.I) (T.leaf (Rd.out Ex.ret [D.i 2])) (T.need (decide ((0:Int) ≤ k.I ∧ k.I < (n.L.length:Int))) (T.leaf (Rd.again [D.i 1,D.i (D.I (List.getD (List.getD n.L k.I.toNat []) 0 default)),D.i (D.I (List.getD (List.getD n.L k.I.toNat []) (0 + 1) default)),D.i (D.I (List.getD (List.getD n.L k.I.toNat []) (0 + 1 + 1) default)),D.i (D.I (List.getD (List.getD n.L k.I.toNat []) (0 + 1 + 1 + 1) default)),D.b (D.B (List.getD (List.getD n.L k.I.toNat []) (0 + 1 + 1 + 1 + 1) default)),D.i (D.I (List.getD (List.getD n.L k.I.toNat []) (0 + 1 + 1 + 1 + 1 + 1) default)),D.i (D.I (List.getD (List.getD n.L k.I.toNat []) (0 + 1 + 1 + 1 + 1 + 1 + 1) default)),D.l (D.L (List.getD (List.getD n.L k.I.toNat []) (0 + 1 + 1 + 1 + 1 + 1 + 1 + 1) default)),D.l i.L,D.i j.I,D.i (IntKind.i64.wrap (k.I + (1:Int))),D.i l.I,D.i m.I,D.l n.L]))))) (T.leaf (Rd.out (Ex.exit 0) [])):=by kernel_rfl
theorem t118 (a:D):fnT C tab118 118 s118 [a] =
 T.leaf [D.b (within a.I (0:Int) (1000000000:Int))]:=by kernel_rfl
theorem t140 (a:D):fnT C tab140 140 s140 [a] =
 T.leaf [D.b !within a.I (0:Int) (1000000000:Int)]:=by kernel_rfl
theorem t2130 (a:D):fnT C tab2130 130 s2130 [a] =
 T.need (yes (a.L.length < big ∧ (a.L.length:Int) = (a.L.length:Int) ∧ (0:Int) ≤ (0:Int) ∧ (0:Int) ≤ (a.L.length:Int))) (T.ite (decide (firstFrom (fun j=>!timeL a.L j) (Int.toNat (0:Int)) (a.L.length - Int.toNat (0:Int)) ≥ (0:Int))) (T.leaf [D.i (firstFrom (fun j=>!timeL a.L j) (Int.toNat (0:Int)) (a.L.length - Int.toNat (0:Int)))]) (T.leaf [D.i (-1:Int)])):=by kernel_rfl
theorem t2130_2 (a b c:D):roundT C tab2130 130 (loopOf C.P 130 2) l2130_2 [a,b,c] =
 T.ite (decide (c.I < b.I)) (T.need (decide ((0:Int) ≤ c.I ∧ c.I < (a.L.length:Int))) (T.ite (!within (D.I (List.getD (List.getD a.L c.I.toNat []) 0 default)) (0:Int) (1000000000:Int)) (T.leaf (Rd.out Ex.ret [D.i c.I])) (T.leaf (Rd.again [D.l a.L,D.i b.I,D.i (IntKind.i64.wrap (c.I + (1:Int)))])))) (T.leaf (Rd.out (Ex.exit 0) [])):=by kernel_rfl
theorem t2102 (a:D):fnT C tab2102 102 s2102 [a] =
 T.need (yes (a.L.length < big)) (T.leaf [D.b (decide (firstFrom (fun j=>!timeL a.L j) 0 a.L.length ≥ (0:Int)))]):=by kernel_rfl
theorem t117 (a:D):fnT C tab117 117 s117 [a] =
 T.need (yes (a.L.length < big)) (T.leaf [D.b !!allFrom (timeL a.L) 0 a.L.length]):=by kernel_rfl
theorem t79 (a b:D):fnT C tab79 79 s79 [a,b] =
 T.ite ((a.L.length:Int) == b.I) (T.need (yes (a.L.length < big)) (T.leaf [D.b (allFrom (timeL a.L) 0 a.L.length)])) (T.leaf [D.b false]):=by kernel_rfl
theorem t85 (a b c d:D):fnT C tab85 85 s85 [a,b,c,d] =
 T.need (decide ((0:Int) ≤ d.I ∧ d.I < (c.L.length:Int))) (T.leaf [D.i (IntKind.i64.wrap (IntKind.i64.wrap (IntKind.i64.wrap (IntKind.i64.wrap (a.I - (1:Int)) * D.I (List.getD (List.getD c.L d.I.toNat []) (0 + 1 + 1 + 1) default)) + D.I (List.getD (List.getD c.L d.I.toNat []) 0 default)) + D.I (List.getD (List.getD c.L d.I.toNat []) (0 + 1 + 1) default)))]):=by kernel_rfl
set_option maxRecDepth 100000
set_option linter.unusedVariables false
theorem wayB_mk (a b c d e f g h:D) (first:Bool) (p:Int):wayB (mk8 a b c d e f g h) first p = (decide ((1 ≤ a.I ∧ a.I ≤ 1000) ∧ (0 ≤ b.I ∧ b.I ≤ 600) ∧ (0 ≤ c.I ∧ c.I ≤ 600) ∧ (1 ≤ d.I ∧ d.I ≤ 60) ∧ (0 ≤ f.I ∧ f.I ≤ g.I) ∧ g.I ≤ 1000 ∧ h.L.length ≤ 10) &&
    ((if e.B then !first else (decide (f.I = 0 ∧ g.I = 0) && (first || decide (d.I = p)))) && hours h.L)):=rfl
theorem wayL_mk (w:List (List D)) (k:Nat) (first:Bool) (p:Int):wayB (mk8 (.i (ix (w.getD k []) 0)) (.i (ix (w.getD k []) 1)) (.i (ix (w.getD k []) 2)) (.i (ix (w.getD k []) 3)) (.b (bx (w.getD k []) 4)) (.i (ix (w.getD k []) 5)) (.i (ix (w.getD k []) 6)) (.l (lx (w.getD k []) 7))) first p = wayB (w.getD k []) first p:=rfl
theorem bne_t {a b:Int} (h:(a != b) = true):a ≠ b:=bne_iff_ne.1 h
theorem bne_f {a b:Int} (h:(a != b) = false):a = b:=by
 by_cases e:a = b
 ·exact e
 ·have:=bne_iff_ne.2 e
  rw [h] at this
  cases this
theorem ok138 (n:Nat):FnOK C (n + 2) 138 (mkF s138 G138):=by
 refine fn_ofS hC (sp:=sp138) (lp:=lp138) (sw:=sw138) ⟨ok80 n,trivial⟩ trivial (by kernel_rfl) [] (by kernel_rfl) rfl (fun k hk=>by cases hk) fun ds r h=>?_
 unfold G138 at h
 split at h
 ·rename_i a b c
  refine (congrArg T.run (t138 a b c)).trans ?_
  rw [← h]
  simp only [within_dec]
  refine go_if (fun c1=>by rw [decide_eq_false (by omega)]; rfl) fun c1=>go_if (fun c2=>by rw [decide_eq_false (by omega)]; rfl) fun c2=>go_if (fun c3=>by rw [decide_eq_false (by omega)]; rfl) fun c3=>?_
  by_cases c4:0 ≤ c.I ∧ c.I ≤ 200000
  ·rw [decide_eq_true c4,decide_eq_true (by omega)]
  ·rw [decide_eq_false c4,decide_eq_false (by omega)]
 ·cases h
theorem ok144_2 (n:Nat):LoopSim C (n + 2) 144 (loopOf C.P 144 2) (mkL l144_2 G144_2):=by
 refine loop_ofK hC (sp:=sp144) (lp:=lp144) (sw:=sw144) ⟨ok138 n,trivial⟩ trivial 0 [] (by kernel_rfl) rfl (fun k hk=>by cases hk) (by kernel_rfl) (fun ds=>((ds.getD 1 default).I - (ds.getD 2 default).I).toNat) fun ds rr h=>?_
 unfold G144_2 at h
 split at h
 ·rename_i l m i
  obtain ⟨hp,h⟩:=need_some h
  rw [yes_iff] at hp
  obtain ⟨hl,hm,hi0,hi1⟩:=hp
  have hb:=big_eq
  refine ⟨by rw [fuelC]; simp; omega,?_⟩
  rw [show roundTK C (mkTab sp144 lp144 sw144) 144 (loopOf C.P 144 2) 0 l144_2 [l,m,i] = _ from t144_2 l m i]
  obtain ⟨k,hk⟩:∃ k:Nat,i.I = k:=⟨i.I.toNat,by omega⟩
  simp only [hk,hm,Int.toNat_natCast,Nat.reduceAdd,ix_def] at h hi0 hi1 ⊢
  refine rd_if (fun hlt=>?_) fun hge=>rd_out (first_end h (by omega))
  obtain ⟨s1,s2⟩:=first_step h (by omega:k < l.L.length)
  refine rd_dec (by omega) (rd_ite (fun c=>rd_out (s1 c)) fun c=>?_)
  rw [wrap_succ (by omega)]
  exact rd_again ((need_yes ⟨hl,rfl,by simp only [I_i]; omega,by simp only [I_i,L_l]; omega⟩).trans (s2 c)) (show ((l.L.length:Int) - ((k + 1:Nat):Int)).toNat < (m.I - i.I).toNat by omega)
 ·cases h
theorem ok144 (n:Nat):FnOK C (n + 3) 144 (mkF s144 G144):=by
 refine fn_ofS hC (sp:=sp144) (lp:=lp144) (sw:=sw144) ⟨ok138 n,trivial⟩ trivial (by kernel_rfl) [2] (by kernel_rfl) (by kernel_rfl) (fun k hk L hL=>by simp at hk; subst hk; cases hL; exact ok144_2 n) fun ds rr h=>?_
 unfold G144 at h
 split at h
 ·rename_i l
  obtain ⟨hp,h⟩:=need_some h
  rw [yes_iff] at hp
  refine (congrArg T.run (t144 l)).trans ?_
  rw [← h]
  simp only [Int.toNat_zero,Nat.sub_zero]
  refine go_yes ⟨hp,trivial,by omega,by omega⟩ (go_if (fun c=>rfl) fun c=>?_)
  rw [firstFrom_neg (by omega)]
 ·cases h
theorem ok137 (n:Nat):FnOK C (n + 4) 137 (mkF s137 G137):=by
 refine fn_ofS hC (sp:=sp137) (lp:=lp137) (sw:=sw137) ⟨ok144 n,ok138 (n + 1),trivial⟩ trivial (by kernel_rfl) [] (by kernel_rfl) rfl (fun k hk=>by cases hk) fun ds rr h=>?_
 unfold G137 at h
 split at h
 ·rename_i l
  obtain ⟨hp,h⟩:=need_some h
  rw [yes_iff] at hp
  refine (congrArg T.run (t137 l)).trans ?_
  rw [← h]
  refine go_yes hp ?_
  rw [firstFrom_all]
  simp only [Bool.not_not]
  rfl
 ·cases h
theorem ok110 (n:Nat):FnOK C (n + 5) 110 (mkF s110 G110):=by
 have hb:=big_eq
 refine fn_ofS hC (sp:=sp110) (lp:=lp110) (sw:=sw110) ⟨ok80 (n + 3),ok137 n,trivial⟩ trivial (by kernel_rfl) [] (by kernel_rfl) rfl (fun k hk=>by cases hk) fun ds rr hh=>?_
 unfold G110 at hh
 split at hh
 ·rename_i a b c d e f g h
  refine (congrArg T.run (t110 a b c d e f g h)).trans ?_
  rw [← hh,wayB_mk]
  simp only [within_dec]
  refine go_not (fun c1=>?_) fun c1=>go_not (fun c2=>?_) fun c2=>go_not (fun c3=>?_) fun c3=>go_not (fun c4=>?_) fun c4=>go_not (fun c5=>?_) fun c5=>go_not (fun c6=>?_) fun c6=>go_if (fun c7=>by rw [decide_eq_false (by omega)]; rfl) fun c7=>?_
  ·have c1:=of_decide_eq_false c1
   rw [decide_eq_false (by omega)]; rfl
  ·have c2:=of_decide_eq_false c2
   rw [decide_eq_false (by omega)]; rfl
  ·have c3:=of_decide_eq_false c3
   rw [decide_eq_false (by omega)]; rfl
  ·have c4:=of_decide_eq_false c4
   rw [decide_eq_false (by omega)]; rfl
  ·have c5:=of_decide_eq_false c5
   rw [decide_eq_false (by omega)]; rfl
  ·have c6:=of_decide_eq_false c6
   rw [decide_eq_false (by omega)]; rfl
  ·have c1:=of_decide_eq_true c1
   have c2:=of_decide_eq_true c2
   have c3:=of_decide_eq_true c3
   have c4:=of_decide_eq_true c4
   have c5:=of_decide_eq_true c5
   have c6:=of_decide_eq_true c6
   rw [decide_eq_true (by omega),Bool.true_and]
   refine go_true rfl ?_
   cases he:e.B with
   | true=>exact go_true rfl rfl
   | false=>
     refine go_false rfl (go_true rfl (go_ite (fun k1=>?_) fun k1=>go_ite (fun k2=>?_) fun k2=>go_false rfl (go_yes (by omega) ?_)))
     ·rw [decide_eq_false fun h=>bne_t k1 h.1]; rfl
     ·rw [decide_eq_false fun h=>bne_t k2 h.2]; rfl
     ·rw [decide_eq_true ⟨bne_f k1,bne_f k2⟩,Bool.not_not]; rfl
 ·cases hh
theorem ok1110 (n:Nat):FnOK C (n + 5) 110 (mkF s1110 G1110):=by
 have hb:=big_eq
 refine fn_ofS hC (sp:=sp1110) (lp:=lp1110) (sw:=sw1110) ⟨ok80 (n + 3),ok137 n,trivial⟩ trivial (by kernel_rfl) [] (by kernel_rfl) rfl (fun k hk=>by cases hk) fun ds rr hh=>?_
 unfold G1110 at hh
 split at hh
 ·rename_i a b c d e f g h q1 q2 q3 p q5 q6 q7 q8
  refine (congrArg T.run (t1110 a b c d e f g h q1 q2 q3 p q5 q6 q7 q8)).trans ?_
  rw [← hh,wayB_mk]
  simp only [within_dec]
  refine go_not (fun c1=>?_) fun c1=>go_not (fun c2=>?_) fun c2=>go_not (fun c3=>?_) fun c3=>go_not (fun c4=>?_) fun c4=>go_not (fun c5=>?_) fun c5=>go_not (fun c6=>?_) fun c6=>go_if (fun c7=>by rw [decide_eq_false (by omega)]; rfl) fun c7=>?_
  ·have c1:=of_decide_eq_false c1
   rw [decide_eq_false (by omega)]; rfl
  ·have c2:=of_decide_eq_false c2
   rw [decide_eq_false (by omega)]; rfl
  ·have c3:=of_decide_eq_false c3
   rw [decide_eq_false (by omega)]; rfl
  ·have c4:=of_decide_eq_false c4
   rw [decide_eq_false (by omega)]; rfl
  ·have c5:=of_decide_eq_false c5
   rw [decide_eq_false (by omega)]; rfl
  ·have c6:=of_decide_eq_false c6
   rw [decide_eq_false (by omega)]; rfl
  ·have c1:=of_decide_eq_true c1
   have c2:=of_decide_eq_true c2
   have c3:=of_decide_eq_true c3
   have c4:=of_decide_eq_true c4
   have c5:=of_decide_eq_true c5
   have c6:=of_decide_eq_true c6
   rw [decide_eq_true (by omega),Bool.true_and]
   refine go_false rfl ?_
   cases he:e.B with
   | true=>
     refine go_false rfl (go_yes (by omega) ?_)
     rw [Bool.not_not]; rfl
   | false=>
     refine go_true rfl (go_ite (fun k1=>?_) fun k1=>go_ite (fun k2=>?_) fun k2=>go_true rfl (go_ite (fun k3=>?_) fun k3=>go_yes (by omega) ?_))
     ·rw [decide_eq_false fun h=>bne_t k1 h.1]; rfl
     ·rw [decide_eq_false fun h=>bne_t k2 h.2]; rfl
     ·rw [decide_eq_true ⟨bne_f k1,bne_f k2⟩,decide_eq_false (bne_t k3)]; rfl
     ·rw [decide_eq_true ⟨bne_f k1,bne_f k2⟩,decide_eq_true (bne_f k3),Bool.not_not]; rfl
 ·cases hh
def mu41:List D → Nat
 | [_,_,m,i,_,_,_]=>(m.I - i.I).toNat
 | [_,_,_,_,_,_,_,_,_,_,m,i,_,_,_]=>(m.I - i.I).toNat
 | _=>0
theorem ok69_5 (n:Nat):LoopSim C (n + 5) 69 (loopOf C.P 69 5) (mkL l69_5 G69_5):=by
 refine loop_ofK hC (sp:=sp69) (lp:=lp69) (sw:=sw69) ⟨ok80 (n + 4),fn_two (ok110 n) (ok1110 n),trivial⟩ trivial 0 [] (by kernel_rfl) rfl (fun k hk=>by cases hk) (by kernel_rfl) mu41 fun ds rr hh=>?_
 unfold G69_5 at hh
 split at hh
 ·rename_i j w m i x y w'
  obtain ⟨hp,hh⟩:=need_some hh
  rw [yes_iff] at hp
  obtain ⟨hj,hw,hl,hm,hi⟩:=hp
  refine ⟨by rw [fuelC]; show (m.I - i.I).toNat < _; omega,?_⟩
  rw [roundTK_head (j:=j) (n:=0) hj (by decide),show roundTK C (mkTab sp69 lp69 sw69) 69 (loopOf C.P 69 5) 0 l69_5 [.i 0,w,m,i,x,y,w'] = _ from t69_5_0 w m i x y w']
  simp only [hi,hm,hw,Int.toNat_zero,Nat.reduceAdd,ix_def,bx_def,lx_def,wayL_mk] at hh ⊢
  refine rd_if (fun hlt=>?_) fun hge=>?_
  ·have hkl:0 < w.L.length:=by omega
   rw [show w.L.length = w.L.length - 0 by omega] at hh
   obtain ⟨s1,s2⟩:=all_step hh hkl
   refine rd_dec (by omega) (rd_not (fun c=>rd_out (s1 ?_)) fun c=>rd_dec (by omega) ?_)
   ·exact c
   ·have hw1:IntKind.i64.wrap (0 + 1) = ((0 + 1:Nat):Int):=by rw [wrap_id (by omega) (by omega)]; rfl
    rw [hw1]
    exact rd_again ((need_yes ⟨rfl,rfl,hl,rfl,by simp only [I_i]; omega,by simp only [I_i,L_l]; omega,rfl⟩).trans (s2 c)) (show ((w.L.length:Int) - ((0 + 1:Nat):Int)).toNat < (m.I - i.I).toNat by omega)
  ·rw [show w.L.length = 0 by omega] at hh
   exact rd_out hh
 ·rename_i j g1 g2 g3 g g5 g6 g7 g8 w m i x y w'
  obtain ⟨hp,hh⟩:=need_some hh
  rw [yes_iff] at hp
  obtain ⟨hj,hw,hl,hm,hi0,hi1,hg⟩:=hp
  refine ⟨by rw [fuelC]; show (m.I - i.I).toNat < _; omega,?_⟩
  rw [roundTK_head (j:=j) (n:=1) hj (by decide),show roundTK C (mkTab sp69 lp69 sw69) 69 (loopOf C.P 69 5) 0 l69_5 [.i 1,g1,g2,g3,g,g5,g6,g7,g8,w,m,i,x,y,w'] = _ from t69_5_1 g1 g2 g3 g g5 g6 g7 g8 w m i x y w']
  obtain ⟨k,hk⟩:∃ k:Nat,i.I = ((k + 1:Nat):Int):=⟨i.I.toNat - 1,by omega⟩
  have hi1':k + 1 ≤ w.L.length:=by omega
  simp only [hk,hm,hw,hg,Int.toNat_natCast,Nat.reduceAdd,Nat.add_sub_cancel,ix_def,bx_def,lx_def,wayL_mk] at hh ⊢
  refine rd_if (fun hlt=>?_) fun hge=>?_
  ·have hkl:k + 1 < w.L.length:=by omega
   obtain ⟨s1,s2⟩:=all_step hh hkl
   refine rd_dec (by omega) (rd_not (fun c=>rd_out (s1 ?_)) fun c=>rd_dec (by omega) ?_)
   ·exact c
   ·rw [wrap_succ (by omega)]
    exact rd_again ((need_yes ⟨rfl,rfl,hl,rfl,by simp only [I_i]; omega,by simp only [I_i,L_l]; omega,rfl⟩).trans (s2 c)) (show ((w.L.length:Int) - ((k + 1 + 1:Nat):Int)).toNat < (m.I - i.I).toNat by omega)
  ·rw [show w.L.length - (k + 1) = 0 by omega] at hh
   exact rd_out hh
 ·cases hh
theorem ok69 (n:Nat):FnOK C (n + 6) 69 (mkF s69 G69):=by
 refine fn_ofS hC (sp:=sp69) (lp:=lp69) (sw:=sw69) ⟨ok80 (n + 4),fn_two (ok110 n) (ok1110 n),trivial⟩ trivial (by kernel_rfl) [5] (by kernel_rfl) (by kernel_rfl) (fun k hk L hL=>by simp at hk; subst hk; cases hL; exact ok69_5 n) fun ds rr h=>?_
 unfold G69 at h
 split at h
 ·rename_i c f w
  refine (congrArg T.run (t69 c f w)).trans ?_
  rw [← h]
  have hH:∀ b:Bool,planH c.I f.I w.L = b → planB c.I f.I w.L = (b && allFrom (wayL w.L) 0 w.L.length):=fun b e=>by unfold planB; rw [e]
  have f1:¬ ((1 ≤ c.I ∧ c.I ≤ 200) ∧ (1 ≤ w.L.length ∧ w.L.length ≤ 60) ∧ 0 ≤ f.I ∧ f.I ≤ 100000) → planB c.I f.I w.L = false:=fun h=>hH false (decide_eq_false h)
  simp only [within_dec]
  refine go_not (fun c1=>?_) fun c1=>go_not (fun c2=>?_) fun c2=>go_not (fun c3=>?_) fun c3=>?_
  ·have c1:=of_decide_eq_false c1
   rw [f1 (by omega)]; rfl
  ·have c2:=of_decide_eq_false c2
   rw [f1 (by omega)]; rfl
  ·have c3:=of_decide_eq_false c3
   rw [f1 (by omega)]; rfl
  ·have c1:=of_decide_eq_true c1
   have c2:=of_decide_eq_true c2
   have c3:=of_decide_eq_true c3
   rw [hH true (decide_eq_true (by omega)),Bool.true_and]
   exact go_yes ⟨trivial,trivial,by omega,trivial,trivial⟩ (go_ite (fun c=>by rw [c]; rfl) fun c=>by rw [c]; rfl)
 ·cases h
theorem ok118 (n:Nat):FnOK C (n + 2) 118 (mkF s118 G118):=by
 refine fn_ofS hC (sp:=sp118) (lp:=lp118) (sw:=sw118) ⟨ok80 n,trivial⟩ trivial (by kernel_rfl) [] (by kernel_rfl) rfl (fun k hk=>by cases hk) fun ds r h=>?_
 unfold G118 at h
 split at h
 ·rename_i t
  exact (congrArg T.run (t118 t)).trans h
 ·cases h
theorem ok140 (n:Nat):FnOK C (n + 3) 140 (mkF s140 G140):=by
 refine fn_ofS hC (sp:=sp140) (lp:=lp140) (sw:=sw140) ⟨ok118 n,trivial⟩ trivial (by kernel_rfl) [] (by kernel_rfl) rfl (fun k hk=>by cases hk) fun ds r h=>?_
 unfold G140 at h
 split at h
 ·rename_i t
  exact (congrArg T.run (t140 t)).trans h
 ·cases h
theorem time_dec (l:List (List D)) (k:Nat):timeL l k = within (rg l k) 0 1000000000:=by unfold timeL; rw [within_dec]
theorem ok2130_2 (n:Nat):LoopSim C (n + 3) 130 (loopOf C.P 130 2) (mkL l2130_2 G2130_2):=by
 refine loop_ofK hC (sp:=sp2130) (lp:=lp2130) (sw:=sw2130) ⟨ok140 n,ok118 (n + 1),trivial⟩ trivial 0 [] (by kernel_rfl) rfl (fun k hk=>by cases hk) (by kernel_rfl) (fun ds=>((ds.getD 1 default).I - (ds.getD 2 default).I).toNat) fun ds rr h=>?_
 unfold G2130_2 at h
 split at h
 ·rename_i l m i
  obtain ⟨hp,h⟩:=need_some h
  rw [yes_iff] at hp
  obtain ⟨hl,hm,hi0,hi1⟩:=hp
  have hb:=big_eq
  refine ⟨by rw [fuelC]; simp; omega,?_⟩
  rw [show roundTK C (mkTab sp2130 lp2130 sw2130) 130 (loopOf C.P 130 2) 0 l2130_2 [l,m,i] = _ from t2130_2 l m i]
  obtain ⟨k,hk⟩:∃ k:Nat,i.I = k:=⟨i.I.toNat,by omega⟩
  simp only [hk,hm,Int.toNat_natCast,rg_def] at h hi0 hi1 ⊢
  refine rd_if (fun hlt=>?_) fun hge=>rd_out (first_end h (by omega))
  obtain ⟨s1,s2⟩:=first_step h (by omega:k < l.L.length)
  refine rd_dec (by omega) (rd_ite (fun c=>rd_out (s1 (by rw [time_dec]; exact c))) fun c=>?_)
  rw [wrap_succ (by omega)]
  exact rd_again ((need_yes ⟨hl,rfl,by simp only [I_i]; omega,by simp only [I_i,L_l]; omega⟩).trans (s2 (by rw [time_dec]; exact c))) (show ((l.L.length:Int) - ((k + 1:Nat):Int)).toNat < (m.I - i.I).toNat by omega)
 ·cases h
theorem ok2130 (n:Nat):FnOK C (n + 4) 130 (mkF s2130 G2130):=by
 refine fn_ofS hC (sp:=sp2130) (lp:=lp2130) (sw:=sw2130) ⟨ok140 n,ok118 (n + 1),trivial⟩ trivial (by kernel_rfl) [2] (by kernel_rfl) (by kernel_rfl) (fun k hk L hL=>by simp at hk; subst hk; cases hL; exact ok2130_2 n) fun ds rr h=>?_
 unfold G2130 at h
 split at h
 ·rename_i l
  obtain ⟨hp,h⟩:=need_some h
  rw [yes_iff] at hp
  refine (congrArg T.run (t2130 l)).trans ?_
  rw [← h]
  simp only [Int.toNat_zero,Nat.sub_zero]
  refine go_yes ⟨hp,trivial,by omega,by omega⟩ (go_if (fun c=>rfl) fun c=>?_)
  rw [firstFrom_neg (by omega)]
 ·cases h
theorem ok2102 (n:Nat):FnOK C (n + 5) 102 (mkF s2102 G2102):=by
 refine fn_ofS hC (sp:=sp2102) (lp:=lp2102) (sw:=sw2102) ⟨ok2130 n,ok140 (n + 1),ok118 (n + 2),trivial⟩ trivial (by kernel_rfl) [] (by kernel_rfl) rfl (fun k hk=>by cases hk) fun ds rr h=>?_
 unfold G2102 at h
 split at h
 ·rename_i l
  obtain ⟨hp,h⟩:=need_some h
  rw [yes_iff] at hp
  refine (congrArg T.run (t2102 l)).trans ?_
  rw [← h]
  refine go_yes hp ?_
  rw [firstFrom_all]
  simp only [Bool.not_not]
 ·cases h
theorem ok117 (n:Nat):FnOK C (n + 6) 117 (mkF s117 G117):=by
 refine fn_ofS hC (sp:=sp117) (lp:=lp117) (sw:=sw117) ⟨ok2102 n,ok118 (n + 3),ok140 (n + 2),trivial⟩ trivial (by kernel_rfl) [] (by kernel_rfl) rfl (fun k hk=>by cases hk) fun ds rr h=>?_
 unfold G117 at h
 split at h
 ·rename_i l
  obtain ⟨hp,h⟩:=need_some h
  rw [yes_iff] at hp
  refine (congrArg T.run (t117 l)).trans ?_
  rw [← h,Bool.not_not]
  exact go_yes hp rfl
 ·cases h
theorem ok79 (n:Nat):FnOK C (n + 7) 79 (mkF s79 G79):=by
 refine fn_ofS hC (sp:=sp79) (lp:=lp79) (sw:=sw79) ⟨ok117 n,trivial⟩ trivial (by kernel_rfl) [] (by kernel_rfl) rfl (fun k hk=>by cases hk) fun ds rr h=>?_
 unfold G79 at h
 split at h
 ·rename_i l m
  obtain ⟨hp,h⟩:=need_some h
  rw [yes_iff] at hp
  refine (congrArg T.run (t79 l m)).trans ?_
  rw [← h]
  unfold timedB
  refine go_ite (fun c=>go_yes hp ?_) fun c=>?_
  ·rw [decide_eq_true (eq_of_beq c),Bool.true_and]
  ·rw [decide_eq_false (ne_of_beq_false c)]; rfl
 ·cases h
theorem way_of {c f:Int} {w:List (List D)} (h:planB c f w = true) {k:Nat} (hk:k < w.length):wayC (w.getD k []) = true ∧ hours (lx (w.getD k []) 7) = true:=by
 unfold planB at h
 rw [Bool.and_eq_true,allFrom_iff] at h
 have:=h.2 k (Nat.zero_le _) (by omega)
 unfold wayL wayB at this
 rw [Bool.and_eq_true,Bool.and_eq_true] at this
 exact ⟨this.1,this.2.2⟩
theorem plan_of {c f:Int} {w:List (List D)} (h:planB c f w = true):(1 ≤ c ∧ c ≤ 200) ∧ (1 ≤ w.length ∧ w.length ≤ 60) ∧ 0 ≤ f ∧ f ≤ 100000:=by
 unfold planB planH at h
 rw [Bool.and_eq_true,decide_eq_true_iff] at h
 exact h.1
theorem wayC_of {c:List D} (h:wayC c = true):(1 ≤ ix c 0 ∧ ix c 0 ≤ 1000) ∧ (0 ≤ ix c 1 ∧ ix c 1 ≤ 600) ∧ (0 ≤ ix c 2 ∧ ix c 2 ≤ 600) ∧ (1 ≤ ix c 3 ∧ ix c 3 ≤ 60) ∧ (0 ≤ ix c 5 ∧ ix c 5 ≤ ix c 6) ∧ ix c 6 ≤ 1000 ∧ (lx c 7).length ≤ 10:=of_decide_eq_true h
theorem span_of {c f:Int} {w:List (List D)} (h:planB c f w = true) {k:Nat} (hk:k < w.length):0 ≤ spanF c (w.getD k []) ∧ spanF c (w.getD k []) ≤ 12000:=by
 have h1:=(plan_of h).1
 have h2:=(wayC_of (way_of h hk).1).2.2.2.1
 unfold spanF
 constructor
 ·exact Int.mul_nonneg (by omega) (by omega)
 ·have:=Int.mul_le_mul (show c - 1 ≤ 200 by omega) (show ix (w.getD k []) 3 ≤ 60 by omega) (by omega) (by omega)
  omega
theorem ok85 (n:Nat):FnOK C (n + 1) 85 (mkF s85 G85):=by
 refine fn_ofS hC (sp:=sp85) (lp:=lp85) (sw:=sw85) trivial trivial (by kernel_rfl) [] (by kernel_rfl) rfl (fun k hk=>by cases hk) fun ds rr h=>?_
 unfold G85 at h
 split at h
 ·rename_i c f w j
  obtain ⟨hp,h⟩:=need_some h
  rw [yes_iff] at hp
  refine (congrArg T.run (t85 c f w j)).trans (go_dec ⟨hp.2.1,hp.2.2⟩ ?_)
  rw [← h]
  have h1:=plan_of hp.1
  have h2:=span_of hp.1 (k:=j.I.toNat) (by omega)
  have h3:=wayC_of (way_of hp.1 (k:=j.I.toNat) (by omega)).1
  unfold busyF
  unfold spanF at h2 ⊢
  simp only [Nat.reduceAdd,ix_def]
  rw [wrap_id (x:=c.I - 1) (by omega) (by omega),wrap_id (x:=(c.I - 1) * ix (w.L.getD j.I.toNat []) 3) (by omega) (by omega),wrap_id (x:=(c.I - 1) * ix (w.L.getD j.I.toNat []) 3 + ix (w.L.getD j.I.toNat []) 0) (by omega) (by omega),wrap_id (by omega) (by omega)]
 ·cases h
set_option maxRecDepth 100000
theorem timed_of {l:List (List D)} {n:Int} (h:timedB l n = true):(l.length:Int) = n ∧ ∀ k,k < l.length → 0 ≤ rg l k ∧ rg l k ≤ 1000000000:=by
 unfold timedB at h
 rw [Bool.and_eq_true,decide_eq_true_iff,allFrom_iff] at h
 exact ⟨h.1,fun k hk=>of_decide_eq_true (h.2 k (Nat.zero_le _) (by omega))⟩
theorem fitH_of {f:Int} {du cl op ch:List (List D)} {r:Nat} (h:fitH f du cl op ch r = true):(du.length = r + 1 ∧ ∀ k,k < du.length → 0 ≤ rg du k ∧ rg du k ≤ 1000000000) ∧ (cl.length = r ∧ ∀ k,k < cl.length → 0 ≤ rg cl k ∧ rg cl k ≤ 1000000000) ∧
    (op.length = r ∧ ∀ k,k < op.length → 0 ≤ rg op k ∧ rg op k ≤ 1000000000) ∧ ch.length = r ∧ f ≤ rg du 0:=by
 unfold fitH at h
 rw [Bool.and_eq_true,Bool.and_eq_true,Bool.and_eq_true,decide_eq_true_iff] at h
 obtain ⟨h1,h2,h3,h4,h5⟩:=h
 obtain ⟨a1,a2⟩:=timed_of h1
 obtain ⟨b1,b2⟩:=timed_of h2
 obtain ⟨c1,c2⟩:=timed_of h3
 exact ⟨⟨by omega,a2⟩,⟨by omega,b2⟩,⟨by omega,c2⟩,h4,h5⟩
theorem ok66_12 (n:Nat):LoopSim C (n + 1) 66 (loopOf C.P 66 12) (mkL l66_12 G66_12):=by
 refine loop_ofK hC (sp:=sp66) (lp:=lp66) (sw:=sw66) ⟨ok106 n,trivial⟩ trivial 0 [] (by kernel_rfl) rfl (fun k hk=>by cases hk) (by kernel_rfl) (fun ds=>(((ds.getD 12 default).L.length:Int) - (ds.getD 1 default).I).toNat) fun ds rr h=>?_
 unfold G66_12 at h
 split at h
 ·rename_i i j c f w e1 e2 e3 e4 e5 e6 e7 l
  obtain ⟨hp,h⟩:=need_some h
  rw [yes_iff] at hp
  obtain ⟨hl,hi0,hi1⟩:=hp
  have hb:=big_eq
  refine ⟨by rw [fuelC]; simp; omega,?_⟩
  rw [show roundTK C (mkTab sp66 lp66 sw66) 66 (loopOf C.P 66 12) 0 l66_12 [i,j,c,f,w,e1,e2,e3,e4,e5,e6,e7,l] = _ from t66_12 i j c f w e1 e2 e3 e4 e5 e6 e7 l]
  obtain ⟨k,hk⟩:∃ k:Nat,j.I = k:=⟨j.I.toNat,by omega⟩
  simp only [hk,Int.toNat_natCast,Nat.reduceAdd,ix_def,within_dec] at h hi0 hi1 ⊢
  refine rd_if (fun hlt=>?_) fun hge=>rd_out (all_end h (by omega))
  obtain ⟨s1,s2⟩:=all_step h (by omega:k < l.L.length)
  have e0:hourB l.L k = decide ((0 ≤ ix (l.L.getD k []) 0 ∧ ix (l.L.getD k []) 0 ≤ ix (l.L.getD k []) 1) ∧ ix (l.L.getD k []) 1 ≤ 200000 ∧ 0 ≤ ix (l.L.getD k []) 2 ∧ ix (l.L.getD k []) 2 ≤ 200000):=rfl
  rw [e0] at s1 s2
  refine rd_dec (by omega) (rd_not (fun c1=>rd_out (s1 ?_)) fun c1=>rd_if (fun c2=>rd_out (s1 (decide_eq_false (by omega)))) fun c2=>rd_not (fun c3=>rd_out (s1 ?_)) fun c3=>?_)
  ·have c1:=of_decide_eq_false c1
   exact decide_eq_false (by omega)
  ·have c3:=of_decide_eq_false c3
   exact decide_eq_false (by omega)
  ·have c1:=of_decide_eq_true c1
   have c3:=of_decide_eq_true c3
   rw [wrap_succ (by omega)]
   exact rd_again ((need_yes ⟨hl,by simp only [I_i]; omega,by simp only [I_i,L_l]; omega⟩).trans (s2 (decide_eq_true (by omega)))) (show ((l.L.length:Int) - ((k + 1:Nat):Int)).toNat < ((l.L.length:Int) - j.I).toNat by omega)
 ·cases h
theorem ok66_4 (n:Nat):LoopSim C (n + 1) 66 (loopOf C.P 66 4) (mkL l66_4 G66_4):=by
 refine loop_ofK hC (sp:=sp66) (lp:=lp66) (sw:=sw66) ⟨ok106 n,trivial⟩ trivial 0 [12] (by kernel_rfl) (by kernel_rfl) (fun k hk L hL=>by simp at hk; subst hk; cases hL; exact ok66_12 n) (by kernel_rfl) (fun ds=>(((ds.getD 3 default).L.length:Int) - (ds.getD 0 default).I).toNat) fun ds rr h=>?_
 unfold G66_4 at h
 split at h
 ·rename_i i a b w
  obtain ⟨hp,h⟩:=need_some h
  rw [yes_iff] at hp
  obtain ⟨hl,hi0,hi1⟩:=hp
  have hb:=big_eq
  refine ⟨by rw [fuelC]; simp; omega,?_⟩
  rw [show roundTK C (mkTab sp66 lp66 sw66) 66 (loopOf C.P 66 4) 0 l66_4 [i,a,b,w] = _ from t66_4 i a b w]
  obtain ⟨k,hk⟩:∃ k:Nat,i.I = k:=⟨i.I.toNat,by omega⟩
  simp only [hk,Int.toNat_natCast,Int.toNat_zero,Nat.sub_zero,Nat.reduceAdd,ix_def,bx_def,lx_def,within_dec] at h hi0 hi1 ⊢
  refine rd_if (fun hlt=>?_) fun hge=>rd_out (all_end h (by omega))
  obtain ⟨s1,s2⟩:=all_step h (by omega:k < w.L.length)
  have e0:wayL w.L k = (wayC (w.L.getD k []) && (grpC (w.L.getD k []) (k == 0) (ix (w.L.getD (k - 1) []) 3) && hours (lx (w.L.getD k []) 7))):=rfl
  rw [e0] at s1 s2
  have hmu:((w.L.length:Int) - ((k + 1:Nat):Int)).toNat < ((w.L.length:Int) - i.I).toNat:=by omega
  have f1:¬ ((1 ≤ ix (w.L.getD k []) 0 ∧ ix (w.L.getD k []) 0 ≤ 1000) ∧ (0 ≤ ix (w.L.getD k []) 1 ∧ ix (w.L.getD k []) 1 ≤ 600) ∧ (0 ≤ ix (w.L.getD k []) 2 ∧ ix (w.L.getD k []) 2 ≤ 600) ∧ (1 ≤ ix (w.L.getD k []) 3 ∧ ix (w.L.getD k []) 3 ≤ 60) ∧
      (0 ≤ ix (w.L.getD k []) 5 ∧ ix (w.L.getD k []) 5 ≤ ix (w.L.getD k []) 6) ∧ ix (w.L.getD k []) 6 ≤ 1000 ∧ (lx (w.L.getD k []) 7).length ≤ 10) → some (Ex.ret,[D.b false]) = some rr:=fun h=>s1 (by rw [show wayC (w.L.getD k []) = false from decide_eq_false h]; rfl)
  refine rd_dec (by omega) (rd_not (fun c1=>?_) fun c1=>rd_not (fun c2=>?_) fun c2=>rd_not (fun c3=>?_) fun c3=>rd_not (fun c4=>?_) fun c4=>rd_if (fun c5=>rd_out (f1 (by omega))) fun c5=>rd_not (fun c6=>?_) fun c6=>rd_if (fun c7=>rd_out (f1 (by omega))) fun c7=>?_)
  ·have c1:=of_decide_eq_false c1
   exact rd_out (f1 (by omega))
  ·have c2:=of_decide_eq_false c2
   exact rd_out (f1 (by omega))
  ·have c3:=of_decide_eq_false c3
   exact rd_out (f1 (by omega))
  ·have c4:=of_decide_eq_false c4
   exact rd_out (f1 (by omega))
  ·have c6:=of_decide_eq_false c6
   exact rd_out (f1 (by omega))
  ·have c1:=of_decide_eq_true c1
   have c2:=of_decide_eq_true c2
   have c3:=of_decide_eq_true c3
   have c4:=of_decide_eq_true c4
   have c6:=of_decide_eq_true c6
   rw [show wayC (w.L.getD k []) = true from decide_eq_true (by omega),Bool.true_and] at s1 s2
   have f2:grpC (w.L.getD k []) (k == 0) (ix (w.L.getD (k - 1) []) 3) = false → some (Ex.ret,[D.b false]) = some rr:=fun h=>s1 (by rw [h]; rfl)
   have f3:grpC (w.L.getD k []) (k == 0) (ix (w.L.getD (k - 1) []) 3) = true → (allFrom (hourB (lx (w.L.getD k []) 7)) 0 (lx (w.L.getD k []) 7).length = false → some (Ex.ret,[D.b false]) = some rr) ∧
       (allFrom (hourB (lx (w.L.getD k []) 7)) 0 (lx (w.L.getD k []) 7).length = true → (G66_4 [.i ((k + 1:Nat):Int),.i a.I,.i b.I,.l w.L]).run = some rr):=fun h=>by
    rw [h,Bool.true_and] at s1 s2
    exact ⟨s1,fun h'=>(need_yes ⟨hl,by simp only [I_i]; omega,by simp only [I_i,L_l]; omega⟩).trans (s2 h')⟩
   rw [wrap_succ (by omega)]
   refine rd_ite (fun k0=>?_) fun k0=>?_
   ·have k0:k = 0:=by have:=eq_of_beq k0; omega
    subst k0
    cases hb4:bx (w.L.getD 0 []) 4 with
    | true=>exact rd_true rfl (rd_out (f2 (by unfold grpC; rw [hb4]; rfl)))
    | false=>
      have g1:∀ q:Bool,decide (ix (w.L.getD 0 []) 5 = 0 ∧ ix (w.L.getD 0 []) 6 = 0) = q → grpC (w.L.getD 0 []) (0 == 0) (ix (w.L.getD (0 - 1) []) 3) = q:=fun q e=>by
       unfold grpC
       rw [hb4,e]
       cases q <;> rfl
      refine rd_false rfl (rd_true rfl (rd_ite (fun k1=>rd_out (f2 (g1 _ (decide_eq_false fun h=>bne_t k1 h.1)))) fun k1=>rd_ite (fun k2=>rd_out (f2 (g1 _ (decide_eq_false fun h=>bne_t k2 h.2)))) fun k2=>rd_neg (by omega) ?_))
      obtain ⟨f4,f5⟩:=f3 (g1 _ (decide_eq_true ⟨bne_f k1,bne_f k2⟩))
      exact rd_yes ⟨by omega,by first | trivial | omega,by omega⟩ (rd_ite (fun q=>rd_again (f5 q) hmu) fun q=>rd_out (f4 q))
   ·have k0:k ≠ 0:=by
     rintro rfl
     cases k0
    have k0':(k == 0) = false:=beq_eq_false_iff_ne.2 k0
    have hw1:IntKind.i64.wrap ((k:Int) - 1) = ((k - 1:Nat):Int):=by rw [wrap_id (by omega) (by omega)]; omega
    rw [hw1]
    cases hb4:bx (w.L.getD k []) 4 with
    | true=>
      obtain ⟨f4,f5⟩:=f3 (by unfold grpC; rw [hb4,k0']; rfl)
      exact rd_false rfl (rd_yes ⟨by omega,by first | trivial | omega,by omega⟩ (rd_ite (fun q=>rd_again (f5 q) hmu) fun q=>rd_out (f4 q)))
    | false=>
      have g1:∀ q:Bool,decide (ix (w.L.getD k []) 5 = 0 ∧ ix (w.L.getD k []) 6 = 0) = q → grpC (w.L.getD k []) (k == 0) (ix (w.L.getD (k - 1) []) 3) = (q && decide (ix (w.L.getD k []) 3 = ix (w.L.getD (k - 1) []) 3)):=fun q e=>by
       unfold grpC
       rw [hb4,e,k0']
       rfl
      refine rd_true rfl (rd_ite (fun k1=>rd_out (f2 (by rw [g1 _ (decide_eq_false fun h=>bne_t k1 h.1)]; rfl))) fun k1=>rd_ite (fun k2=>rd_out (f2 (by rw [g1 _ (decide_eq_false fun h=>bne_t k2 h.2)]; rfl))) fun k2=>rd_pos (by omega) (rd_dec (by omega) ?_))
      have g2:=g1 _ (decide_eq_true ⟨bne_f k1,bne_f k2⟩)
      rw [Bool.true_and] at g2
      rw [Int.toNat_natCast]
      refine rd_ite (fun k3=>rd_out (f2 (by rw [g2]; exact decide_eq_false (bne_t k3)))) fun k3=>?_
      obtain ⟨f4,f5⟩:=f3 (by rw [g2]; exact decide_eq_true (bne_f k3))
      exact rd_yes ⟨by omega,by first | trivial | omega,by omega⟩ (rd_ite (fun q=>rd_again (f5 q) hmu) fun q=>rd_out (f4 q))
 ·cases h
theorem ok66 (n:Nat):FnOK C (n + 2) 66 (mkF s66 G66):=by
 refine fn_ofS hC (sp:=sp66) (lp:=lp66) (sw:=sw66) ⟨ok106 n,trivial⟩ trivial (by kernel_rfl) [4] (by kernel_rfl) (by kernel_rfl) (fun k hk L hL=>by simp at hk; subst hk; cases hL; exact ok66_4 n) fun ds rr h=>?_
 unfold G66 at h
 split at h
 ·rename_i c f w
  refine (congrArg T.run (t66 c f w)).trans ?_
  rw [← h]
  have hH:∀ b:Bool,planH c.I f.I w.L = b → planB c.I f.I w.L = (b && allFrom (wayL w.L) 0 w.L.length):=fun b e=>by unfold planB; rw [e]
  have f1:¬ ((1 ≤ c.I ∧ c.I ≤ 200) ∧ (1 ≤ w.L.length ∧ w.L.length ≤ 60) ∧ 0 ≤ f.I ∧ f.I ≤ 100000) → planB c.I f.I w.L = false:=fun h=>hH false (decide_eq_false h)
  simp only [within_dec,Int.toNat_zero,Nat.sub_zero]
  refine go_not (fun c1=>?_) fun c1=>go_not (fun c2=>?_) fun c2=>go_not (fun c3=>?_) fun c3=>?_
  ·have c1:=of_decide_eq_false c1
   rw [f1 (by omega)]
  ·have c2:=of_decide_eq_false c2
   rw [f1 (by omega)]
  ·have c3:=of_decide_eq_false c3
   rw [f1 (by omega)]
  ·have c1:=of_decide_eq_true c1
   have c2:=of_decide_eq_true c2
   have c3:=of_decide_eq_true c3
   rw [hH true (decide_eq_true (by omega)),Bool.true_and]
   exact go_yes ⟨by omega,by first | trivial | omega,by omega⟩ (go_ite (fun c=>by rw [c]) fun c=>by rw [c])
 ·cases h
theorem ok30 (n:Nat):FnOK C (n + 8) 30 (mkF s30 G30):=by
 refine fn_ofS hC (sp:=sp30) (lp:=lp30) (sw:=sw30) ⟨ok69 (n + 1),ok79 n,ok80 (n + 6),trivial⟩ trivial (by kernel_rfl) [] (by kernel_rfl) rfl (fun k hk=>by cases hk) fun ds rr h=>?_
 unfold G30 at h
 split at h
 ·rename_i c f w du q1 q2 q3 car at'
  obtain ⟨hp,h⟩:=need_some h
  rw [yes_iff] at hp
  have hb:=big_eq
  refine (congrArg T.run (t30 c f w du q1 q2 q3 car at')).trans ?_
  rw [← h]
  unfold dueB
  simp only [within_dec,ix_def,Nat.reduceAdd]
  cases hpl:planB c.I f.I w.L with
  | false=>exact go_true rfl rfl
  | true =>
    have hlen:=plan_of hpl
    have hl1:IntKind.i64.wrap ((w.L.length:Int) - 1) = (w.L.length:Int) - 1:=wrap_id (by omega) (by omega)
    have hc1:IntKind.i64.wrap (c.I - 1) = c.I - 1:=wrap_id (by omega) (by omega)
    have hl2:IntKind.i64.wrap ((w.L.length:Int) + 1) = (w.L.length:Int) + 1:=wrap_id (by omega) (by omega)
    simp only [hl1,hl2,hc1]
    refine go_false rfl (go_yes hp (go_not (fun k1=>by rw [k1]; rfl) fun k1=>?_))
    obtain ⟨hd1,hd2⟩:=timed_of k1
    rw [k1,Bool.true_and]
    refine go_not (fun k2=>?_) fun k2=>go_not (fun k3=>?_) fun k3=>?_
    ·have k2:=of_decide_eq_false k2
     rw [decide_eq_false (show ¬ ((0 ≤ car.I ∧ car.I ≤ c.I - 1) ∧ 0 ≤ at'.I ∧ at'.I ≤ (w.L.length:Int) - 1) by omega)]; rfl
    ·have k3:=of_decide_eq_false k3
     rw [decide_eq_false (show ¬ ((0 ≤ car.I ∧ car.I ≤ c.I - 1) ∧ 0 ≤ at'.I ∧ at'.I ≤ (w.L.length:Int) - 1) by omega)]; rfl
    ·have k2:=of_decide_eq_true k2
     have k3:=of_decide_eq_true k3
     rw [decide_eq_true (show (0 ≤ car.I ∧ car.I ≤ c.I - 1) ∧ 0 ≤ at'.I ∧ at'.I ≤ (w.L.length:Int) - 1 by omega)]
     have d0:0 ≤ ix (du.L.getD at'.I.toNat []) 0 ∧ ix (du.L.getD at'.I.toNat []) 0 ≤ 1000000000:=hd2 _ (by omega)
     have w0:=wayC_of (way_of hpl (k:=at'.I.toNat) (by omega)).1
     have hm:0 ≤ car.I * ix (w.L.getD at'.I.toNat []) 3 ∧ car.I * ix (w.L.getD at'.I.toNat []) 3 ≤ 12000:=by
      constructor
      ·exact Int.mul_nonneg (by omega) (by omega)
      ·have:=Int.mul_le_mul (show car.I ≤ 200 by omega) (show ix (w.L.getD at'.I.toNat []) 3 ≤ 60 by omega) (by omega) (by omega)
       omega
     refine go_dec (by omega) (go_dec (by omega) (go_dec (by omega) ?_))
     unfold dueF rg
     rw [wrap_id (x:=car.I * ix (w.L.getD at'.I.toNat []) 3) (by omega) (by omega),wrap_id (x:=ix (du.L.getD at'.I.toNat []) 0 + car.I * ix (w.L.getD at'.I.toNat []) 3) (by omega) (by omega),wrap_id (by omega) (by omega)]
     rfl
 ·cases h
set_option maxRecDepth 100000
theorem ok35_5 (n:Nat):LoopSim C (n + 7) 35 (loopOf C.P 35 5) (mkL l35_5 G35_5):=by
 refine loop_ofK hC (sp:=sp35) (lp:=lp35) (sw:=sw35) ⟨ok69 (n + 1),ok79 n,ok80 (n + 6),ok85 (n + 6),trivial⟩ trivial 0 [] (by kernel_rfl) rfl (fun k hk=>by cases hk) (by kernel_rfl) (fun ds=>((ds.getD 2 default).I - (ds.getD 3 default).I).toNat) fun ds rr h=>?_
 unfold G35_5 at h
 split at h
 ·rename_i r w m j c f w' du cl op ch
  obtain ⟨hp,h⟩:=need_some h
  rw [yes_iff] at hp
  obtain ⟨hT,hw,hr,hm,hi0,hi1⟩:=hp
  have hT':okT c.I f.I w.L du.L cl.L op.L ch.L:=hT
  have hb:=big_eq
  obtain ⟨hpl,hfit⟩:=hT
  obtain ⟨⟨hd1,hd2⟩,⟨hc1,hc2⟩,⟨ho1,ho2⟩,hh1,-⟩:=fitH_of hfit
  have hlen:=(plan_of hpl).2.1
  have hcar:=(plan_of hpl).1
  refine ⟨by rw [fuelC]; simp; omega,?_⟩
  rw [show roundTK C (mkTab sp35 lp35 sw35) 35 (loopOf C.P 35 5) 0 l35_5 [r,w,m,j,c,f,w',du,cl,op,ch] = _ from t35_5 r w m j c f w' du cl op ch]
  obtain ⟨k,hk⟩:∃ k:Nat,j.I = k:=⟨j.I.toNat,by omega⟩
  simp only [hk,hr,hm,hw,Int.toNat_natCast,Nat.reduceAdd,ix_def,bx_def,lx_def,within_dec] at h hi0 hi1 ⊢
  refine rd_if (fun hlt=>?_) fun hge=>rd_out (all_end h (by omega))
  obtain ⟨s1,s2⟩:=all_step h (by omega:k < w.L.length)
  have hmu:((w.L.length:Int) - ((k + 1:Nat):Int)).toNat < (m.I - j.I).toNat:=by omega
  have hkl:k < w.L.length:=by omega
  have d0:0 ≤ ix (du.L.getD k []) 0 ∧ ix (du.L.getD k []) 0 ≤ 1000000000:=hd2 k (by omega)
  have d1:0 ≤ ix (du.L.getD (k + 1) []) 0 ∧ ix (du.L.getD (k + 1) []) 0 ≤ 1000000000:=hd2 (k + 1) (by omega)
  have c0:0 ≤ ix (cl.L.getD k []) 0 ∧ ix (cl.L.getD k []) 0 ≤ 1000000000:=hc2 k (by omega)
  have o0:0 ≤ ix (op.L.getD k []) 0 ∧ ix (op.L.getD k []) 0 ≤ 1000000000:=ho2 k (by omega)
  have w0:=wayC_of (way_of hpl hkl).1
  have sp0:=span_of hpl hkl
  have hs2:bothB c.I w.L du.L cl.L op.L ch.L k = true → (G35_5 [.i (w.L.length:Int),.l w.L,.i (w.L.length:Int),.i ((k + 1:Nat):Int),.i c.I,.i f.I,.l w.L,.l du.L,.l cl.L,.l op.L,.l ch.L]).run = some rr:=fun h'=>
   (need_yes ⟨hT',rfl,rfl,rfl,by simp only [I_i]; omega,by simp only [I_i,L_l]; omega⟩).trans (s2 h')
  have e0:∀ {b:Bool},nextB c.I w.L du.L k = b → bothB c.I w.L du.L cl.L op.L ch.L k = (b && restB c.I w.L du.L cl.L op.L ch.L k):=fun e=>by unfold bothB; rw [e]
  have r0:∀ b:Bool,decide (ix (cl.L.getD k []) 0 ≤ ix (du.L.getD k []) 0 - ix (w.L.getD k []) 1 ∧ ix (du.L.getD k []) 0 + busyF c.I (w.L.getD k []) ≤ ix (op.L.getD k []) 0) = b →
      (true && restB c.I w.L du.L cl.L op.L ch.L k) = (b && choB (lx (w.L.getD k []) 7) (ix (cl.L.getD k []) 0) (ix (op.L.getD k []) 0) (ix (ch.L.getD k []) 0)):=fun b e=>by rw [← e]; rfl
  have n1:k + 1 < w.L.length ∧ bx (w.L.getD (k + 1) []) 4 = true → nextB c.I w.L du.L k = decide (ix (du.L.getD k []) 0 + ix (w.L.getD k []) 0 + spanF c.I (w.L.getD k []) + ix (w.L.getD (k + 1) []) 5 ≤ ix (du.L.getD (k + 1) []) 0 ∧ ix (du.L.getD (k + 1) []) 0 ≤ ix (du.L.getD k []) 0 + ix (w.L.getD k []) 0 + spanF c.I (w.L.getD k []) + ix (w.L.getD (k + 1) []) 6):=
   fun h=>by unfold nextB; rw [if_pos h]; rfl
  have n2:¬ (k + 1 < w.L.length ∧ bx (w.L.getD (k + 1) []) 4 = true) → nextB c.I w.L du.L k = decide (ix (du.L.getD (k + 1) []) 0 = ix (du.L.getD k []) 0 + ix (w.L.getD k []) 0):=
   fun h=>by unfold nextB; rw [if_neg h]; rfl
  have hbusy:busyF c.I (w.L.getD k []) = spanF c.I (w.L.getD k []) + ix (w.L.getD k []) 0 + ix (w.L.getD k []) 2:=rfl
  have hw1:IntKind.i64.wrap ((k:Int) + 1) = ((k + 1:Nat):Int):=wrap_succ (by omega)
  have hcm:IntKind.i64.wrap (c.I - 1) = c.I - 1:=wrap_id (by omega) (by omega)
  have hspan:(c.I - 1) * ix (w.L.getD k []) 3 = spanF c.I (w.L.getD k []):=rfl
  have hspan2:IntKind.i64.wrap (spanF c.I (w.L.getD k [])) = spanF c.I (w.L.getD k []):=wrap_id (by omega) (by omega)
  have hsum:IntKind.i64.wrap (ix (du.L.getD k []) 0 + ix (w.L.getD k []) 0) = ix (du.L.getD k []) 0 + ix (w.L.getD k []) 0:=wrap_id (by omega) (by omega)
  have hsub:IntKind.i64.wrap (ix (du.L.getD k []) 0 - ix (w.L.getD k []) 1) = ix (du.L.getD k []) 0 - ix (w.L.getD k []) 1:=wrap_id (by omega) (by omega)
  have ha1:IntKind.i64.wrap (ix (du.L.getD k []) 0 + busyF c.I (w.L.getD k [])) = ix (du.L.getD k []) 0 + busyF c.I (w.L.getD k []):=wrap_id (by omega) (by omega)
  have hb1:IntKind.i64.wrap (ix (op.L.getD k []) 0 - ix (cl.L.getD k []) 0) = ix (op.L.getD k []) 0 - ix (cl.L.getD k []) 0:=wrap_id (by omega) (by omega)
  have hl1:IntKind.i64.wrap (((lx (w.L.getD k []) 7).length:Int) - 1) = ((lx (w.L.getD k []) 7).length:Int) - 1:=wrap_id (by omega) (by omega)
  have hs3:IntKind.i64.wrap (ix (du.L.getD k []) 0 + ix (w.L.getD k []) 0 + spanF c.I (w.L.getD k [])) = ix (du.L.getD k []) 0 + ix (w.L.getD k []) 0 + spanF c.I (w.L.getD k []):=wrap_id (by omega) (by omega)
  simp only [hw1,hcm,hspan,hspan2,hsum,hsub,ha1,hb1,hl1,hs3,Int.toNat_natCast]
  refine rd_dec (by omega) (rd_dec (by omega) (rd_dec (by omega) (rd_if (fun a1=>?_) fun a1=>?_)))
  ·have a1:k + 1 < w.L.length:=by omega
   refine rd_dec (by omega) (rd_ite (fun a2=>?_) fun a2=>?_)
   ·have w1:=wayC_of (way_of hpl a1).1
    have hs4:IntKind.i64.wrap (ix (du.L.getD k []) 0 + ix (w.L.getD k []) 0 + spanF c.I (w.L.getD k []) + ix (w.L.getD (k + 1) []) 5) = ix (du.L.getD k []) 0 + ix (w.L.getD k []) 0 + spanF c.I (w.L.getD k []) + ix (w.L.getD (k + 1) []) 5:=wrap_id (by omega) (by omega)
    have hs5:IntKind.i64.wrap (ix (du.L.getD k []) 0 + ix (w.L.getD k []) 0 + spanF c.I (w.L.getD k []) + ix (w.L.getD (k + 1) []) 6) = ix (du.L.getD k []) 0 + ix (w.L.getD k []) 0 + spanF c.I (w.L.getD k []) + ix (w.L.getD (k + 1) []) 6:=wrap_id (by omega) (by omega)
    simp only [hs4,hs5]
    refine rd_dec (by omega) (rd_dec (by omega) (rd_not (fun a3=>rd_out (s1 (by rw [e0 ((n1 ⟨a1,a2⟩).trans a3)]; rfl))) fun a3=>?_))
    have e1:=e0 ((n1 ⟨a1,a2⟩).trans a3)
    refine rd_dec (by omega) (rd_dec (by omega) (rd_if (fun k1=>rd_out (s1 (by rw [e1,r0 _ (decide_eq_false (by omega))]; rfl))) fun k1=>rd_dec (by omega) (rd_dec (by omega) (rd_yes ⟨hpl,by omega,by omega⟩ (rd_if (fun k2=>rd_out (s1 (by rw [e1,r0 _ (decide_eq_false (by omega))]; rfl))) fun k2=>rd_dec (by omega) ?_)))))
    have e2:=e1.trans (r0 true (decide_eq_true (by omega)))
    rw [Bool.true_and] at e2
    rw [e2] at s1 hs2
    unfold choB at s1 hs2
    refine rd_ite (fun k3=>?_) fun k3=>?_
    ·have k3:(lx (w.L.getD k []) 7).length = 0:=by have:=eq_of_beq k3; omega
     rw [if_pos k3] at s1 hs2
     exact rd_ite (fun k4=>rd_out (s1 (decide_eq_false (bne_t k4)))) fun k4=>rd_again (hs2 (decide_eq_true (bne_f k4))) hmu
    ·have k3:¬ (lx (w.L.getD k []) 7).length = 0:=fun e=>by rw [e] at k3; exact absurd k3 (by decide)
     rw [if_neg k3] at s1 hs2
     refine rd_not (fun k4=>rd_out (s1 ?_)) fun k4=>?_
     ·have k4:=of_decide_eq_false k4
      exact decide_eq_false fun h=>k4 h.1
     ·have k4:=of_decide_eq_true k4
      exact rd_dec (by omega) (rd_dec (by omega) (rd_if (fun k5=>rd_out (s1 (decide_eq_false (by omega)))) fun k5=>rd_dec (by omega) (rd_if (fun k6=>rd_out (s1 (decide_eq_false (by omega)))) fun k6=>rd_dec (by omega) (rd_dec (by omega)
       (rd_if (fun k7=>rd_out (s1 (decide_eq_false (by omega)))) fun k7=>rd_again (hs2 (decide_eq_true (by omega))) hmu)))))
   ·have n3:=n2 (fun h=>by rw [h.2] at a2; cases a2)
    refine rd_ite (fun a3=>rd_out (s1 (by rw [e0 (n3.trans (decide_eq_false (bne_t a3)))]; rfl))) fun a3=>?_
    have e1:=e0 (n3.trans (decide_eq_true (bne_f a3)))
    refine rd_dec (by omega) (rd_dec (by omega) (rd_if (fun k1=>rd_out (s1 (by rw [e1,r0 _ (decide_eq_false (by omega))]; rfl))) fun k1=>rd_dec (by omega) (rd_dec (by omega) (rd_yes ⟨hpl,by omega,by omega⟩ (rd_if (fun k2=>rd_out (s1 (by rw [e1,r0 _ (decide_eq_false (by omega))]; rfl))) fun k2=>rd_dec (by omega) ?_)))))
    have e2:=e1.trans (r0 true (decide_eq_true (by omega)))
    rw [Bool.true_and] at e2
    rw [e2] at s1 hs2
    unfold choB at s1 hs2
    refine rd_ite (fun k3=>?_) fun k3=>?_
    ·have k3:(lx (w.L.getD k []) 7).length = 0:=by have:=eq_of_beq k3; omega
     rw [if_pos k3] at s1 hs2
     exact rd_ite (fun k4=>rd_out (s1 (decide_eq_false (bne_t k4)))) fun k4=>rd_again (hs2 (decide_eq_true (bne_f k4))) hmu
    ·have k3:¬ (lx (w.L.getD k []) 7).length = 0:=fun e=>by rw [e] at k3; exact absurd k3 (by decide)
     rw [if_neg k3] at s1 hs2
     refine rd_not (fun k4=>rd_out (s1 ?_)) fun k4=>?_
     ·have k4:=of_decide_eq_false k4
      exact decide_eq_false fun h=>k4 h.1
     ·have k4:=of_decide_eq_true k4
      exact rd_dec (by omega) (rd_dec (by omega) (rd_if (fun k5=>rd_out (s1 (decide_eq_false (by omega)))) fun k5=>rd_dec (by omega) (rd_if (fun k6=>rd_out (s1 (decide_eq_false (by omega)))) fun k6=>rd_dec (by omega) (rd_dec (by omega)
       (rd_if (fun k7=>rd_out (s1 (decide_eq_false (by omega)))) fun k7=>rd_again (hs2 (decide_eq_true (by omega))) hmu)))))
  ·have n3:=n2 (fun h=>by omega)
   refine rd_ite (fun a3=>rd_out (s1 (by rw [e0 (n3.trans (decide_eq_false (bne_t a3)))]; rfl))) fun a3=>?_
   have e1:=e0 (n3.trans (decide_eq_true (bne_f a3)))
   refine rd_dec (by omega) (rd_dec (by omega) (rd_if (fun k1=>rd_out (s1 (by rw [e1,r0 _ (decide_eq_false (by omega))]; rfl))) fun k1=>rd_dec (by omega) (rd_dec (by omega) (rd_yes ⟨hpl,by omega,by omega⟩ (rd_if (fun k2=>rd_out (s1 (by rw [e1,r0 _ (decide_eq_false (by omega))]; rfl))) fun k2=>rd_dec (by omega) ?_)))))
   have e2:=e1.trans (r0 true (decide_eq_true (by omega)))
   rw [Bool.true_and] at e2
   rw [e2] at s1 hs2
   unfold choB at s1 hs2
   refine rd_ite (fun k3=>?_) fun k3=>?_
   ·have k3:(lx (w.L.getD k []) 7).length = 0:=by have:=eq_of_beq k3; omega
    rw [if_pos k3] at s1 hs2
    exact rd_ite (fun k4=>rd_out (s1 (decide_eq_false (bne_t k4)))) fun k4=>rd_again (hs2 (decide_eq_true (bne_f k4))) hmu
   ·have k3:¬ (lx (w.L.getD k []) 7).length = 0:=fun e=>by rw [e] at k3; exact absurd k3 (by decide)
    rw [if_neg k3] at s1 hs2
    refine rd_not (fun k4=>rd_out (s1 ?_)) fun k4=>?_
    ·have k4:=of_decide_eq_false k4
     exact decide_eq_false fun h=>k4 h.1
    ·have k4:=of_decide_eq_true k4
     exact rd_dec (by omega) (rd_dec (by omega) (rd_if (fun k5=>rd_out (s1 (decide_eq_false (by omega)))) fun k5=>rd_dec (by omega) (rd_if (fun k6=>rd_out (s1 (decide_eq_false (by omega)))) fun k6=>rd_dec (by omega) (rd_dec (by omega)
      (rd_if (fun k7=>rd_out (s1 (decide_eq_false (by omega)))) fun k7=>rd_again (hs2 (decide_eq_true (by omega))) hmu)))))
 ·cases h
theorem ok35 (n:Nat):FnOK C (n + 8) 35 (mkF s35 G35):=by
 refine fn_ofS hC (sp:=sp35) (lp:=lp35) (sw:=sw35) ⟨ok69 (n + 1),ok79 n,ok80 (n + 6),ok85 (n + 6),trivial⟩ trivial (by kernel_rfl) [5] (by kernel_rfl) (by kernel_rfl) (fun k hk L hL=>by simp at hk; subst hk; cases hL; exact ok35_5 n) fun ds rr h=>?_
 unfold G35 at h
 split at h
 ·rename_i c f w du cl op ch
  obtain ⟨hp,h⟩:=need_some h
  rw [yes_iff] at hp
  obtain ⟨g1,g2,g3,g4⟩:=hp
  have hb:=big_eq
  refine (congrArg T.run (t35 c f w du cl op ch)).trans ?_
  rw [← h]
  unfold fitsP
  cases hpl:planB c.I f.I w.L with
  | false=>exact go_true rfl rfl
  | true=>
  have hlen:=(plan_of hpl).2.1
  simp only [Int.toNat_zero,Nat.sub_zero,ix_def]
  rw [wrap_succ (by omega),Bool.true_and]
  have e1:fitH f.I du.L cl.L op.L ch.L w.L.length = (timedB du.L (((w.L.length + 1:Nat):Int)) && (timedB cl.L w.L.length && (timedB op.L w.L.length && decide (ch.L.length = w.L.length ∧ f.I ≤ ix (du.L.getD 0 []) 0)))):=rfl
  refine go_false rfl (go_yes g1 (go_not (fun k1=>by rw [e1,k1]; rfl) fun k1=>go_yes g2 (go_not (fun k2=>by rw [e1,k1,k2]; rfl) fun k2=>go_yes g3 (go_not (fun k3=>by rw [e1,k1,k2,k3]; rfl) fun k3=>?_))))
  rw [k1,k2,k3,Bool.true_and,Bool.true_and,Bool.true_and] at e1
  have hd1:=(timed_of k1).1
  refine go_ite (fun k4=>?_) fun k4=>go_dec (by omega) (go_if (fun k5=>?_) fun k5=>?_)
  ·have k4:=bne_t k4
   rw [e1,decide_eq_false (show ¬ (ch.L.length = w.L.length ∧ f.I ≤ ix (du.L.getD 0 []) 0) by omega)]; rfl
  ·rw [e1,decide_eq_false (show ¬ (ch.L.length = w.L.length ∧ f.I ≤ ix (du.L.getD 0 []) 0) by omega)]; rfl
  ·have k4:=bne_f k4
   have hfit:fitH f.I du.L cl.L op.L ch.L w.L.length = true:=by rw [e1]; exact decide_eq_true (by omega)
   rw [hfit,Bool.true_and]
   have e3:(fun j=>nextB c.I w.L du.L j && restB c.I w.L du.L cl.L op.L ch.L j) = bothB c.I w.L du.L cl.L op.L ch.L:=rfl
   rw [e3]
   exact go_yes ⟨⟨hpl,hfit⟩,by first | trivial | omega,by first | trivial | omega,by first | trivial | omega,by first | trivial | omega,by omega⟩ (go_ite (fun k6=>by rw [k6]) fun k6=>by rw [k6])
 ·cases h
set_option maxRecDepth 100000
noncomputable section
def winF (w ch:List (List D)) (j:Nat):List D:=(lx (w.getD j []) 7).getD (rg ch j).toNat []
def fromF (w ch:List (List D)) (j:Nat):Int:=if 0 ≤ rg ch j then ix (winF w ch j) 0 else 0
def leW (c:Int) (w:List (List D)) (j:Nat):Int:=if j + 1 < w.length ∧ bx (w.getD (j + 1) []) 4 = true then ix (w.getD j []) 0 + spanF c (w.getD j []) + ix (w.getD (j + 1) []) 5 else ix (w.getD j []) 0
def moW (c:Int) (w:List (List D)) (j:Nat):Int:=if j + 1 < w.length ∧ bx (w.getD (j + 1) []) 4 = true then ix (w.getD j []) 0 + spanF c (w.getD j []) + ix (w.getD (j + 1) []) 6 else ix (w.getD j []) 0
def lk3 (a b x:Int):List D:=[.i a,.i b,.i x]
def afterL (c:Int) (w:List (List D)) (j:Nat):List (List D):=[lk3 ((j:Int) + 1) ((j:Int) + 2) (leW c w j),lk3 ((j:Int) + 2) ((j:Int) + 1) (-(moW c w j))]
def closL (u:Bool) (c:Int) (w ch:List (List D)) (j:Nat):List (List D):=
 if 0 ≤ rg ch j then lk3 0 ((j:Int) + 1) (ix (w.getD j []) 1 + ix (winF w ch j) 0) :: (if u then [lk3 ((j:Int) + 1) 0 (busyF c (w.getD j []) - ix (winF w ch j) 1)] else []) else [lk3 0 ((j:Int) + 1) (ix (w.getD j []) 1)]
def linkJ (u:Bool) (c:Int) (w ch:List (List D)) (j:Nat):List (List D):=afterL c w j ++ closL u c w ch j
def linksF (u:Bool) (c:Int) (w ch:List (List D)):Nat → Nat → List (List D)
 | _,0=>[]
 | j,k + 1=>linkJ u c w ch j ++ linksF u c w ch (j + 1) k
def linksP (u:Bool) (c f:Int) (w ch:List (List D)):List (List D):=lk3 0 1 f :: linksF u c w ch 0 w.length
def nP (w:List (List D)):Int:=(w.length:Int) + 2
def chOK (w ch:List (List D)):Prop:=ch.length = w.length ∧ ∀ j,j < w.length → if (lx (w.getD j []) 7).length = 0 then rg ch j = -1 else 0 ≤ rg ch j ∧ rg ch j < (lx (w.getD j []) 7).length
def limJ (c:Int) (w ch:List (List D)) (j:Nat):Bool:=decide (0 ≤ rg ch j → ix (w.getD j []) 1 + busyF c (w.getD j []) ≤ ix (winF w ch j) 2)
def limB (c:Int) (w ch:List (List D)):Bool:=allFrom (limJ c w ch) 0 w.length
def pushP (u:Bool) (c f:Int) (w ch:List (List D)):RSt:=pushR (nP w) (allL (nP w) (linksP u c f w ch)) (zeros (nP w))
def dueL (c f:Int) (w ch:List (List D)):List (List D):=(pushP false c f w ch).1.drop 1
def duesOk (c f:Int) (w ch:List (List D)):Bool:=limB c w ch && decide ((pushP true c f w ch).2.2 < 0)
end
def canon (t:List (List D)):Prop:=∀ j,j < t.length → t.getD j [] = [.i (rg t j)]
theorem canon_rs {t:List (List D)} (h:canon t) (j:Nat) (v:Int):canon (rs t j v):=by
 intro i hi
 rw [len_rs] at hi
 by_cases e:i = j
 ·subst e
  rw [rg_rs hi,if_pos rfl]
  unfold rs
  rw [List.getD_eq_getElem?_getD,List.getElem?_set_self hi]
  rfl
 ·have h1:(rs t j v).getD i [] = t.getD i []:=by
   unfold rs
   rw [List.getD_eq_getElem?_getD,List.getD_eq_getElem?_getD,List.getElem?_set_ne (fun h=>e h.symm)]
  have h2:rg (rs t j v) i = rg t i:=by unfold rg; rw [h1]
  rw [h1,h2]
  exact h i hi
theorem canon_rep (n:Nat) (v:Int):canon (List.replicate n [.i v]):=by
 intro j hj
 rw [List.length_replicate] at hj
 rw [rg_rep hj,List.getD_eq_getElem?_getD,List.getElem?_replicate,if_pos hj]
 rfl
theorem canon_drop {t:List (List D)} (h:canon t) (k:Nat):canon (t.drop k):=by
 intro j hj
 rw [List.length_drop] at hj
 have e:(t.drop k).getD j [] = t.getD (k + j) []:=by rw [List.getD_eq_getElem?_getD,List.getD_eq_getElem?_getD,List.getElem?_drop]
 have e2:rg (t.drop k) j = rg t (k + j):=by unfold rg; rw [e]
 rw [e,e2]
 exact h (k + j) (by omega)
theorem rg_drop (t:List (List D)) (k j:Nat):rg (t.drop k) j = rg t (k + j):=by
 unfold rg
 rw [List.getD_eq_getElem?_getD,List.getD_eq_getElem?_getD,List.getElem?_drop]
theorem canon_ext {a b:List (List D)} (ha:canon a) (hb:canon b) (hl:a.length = b.length) (h:∀ j,j < a.length → rg a j = rg b j):a = b:=by
 apply List.ext_getElem hl
 intro j h1 h2
 have e1:=ha j h1
 have e2:=hb j h2
 rw [List.getD_eq_getElem?_getD,List.getElem?_eq_getElem h1] at e1
 rw [List.getD_eq_getElem?_getD,List.getElem?_eq_getElem h2] at e2
 simp only [Option.getD_some] at e1 e2
 rw [e1,e2,h j h1]
theorem canon_step {l:List (List D)} (i:Nat) {s:RSt} (h:canon s.1):canon (stepR l i s).1:=by
 unfold stepR
 split
 ·exact canon_rs h _ _
 ·exact h
theorem canon_pass {l:List (List D)}:∀ (k i:Nat) {s:RSt},canon s.1 → canon (passR l i k s).1
 | 0,_,_,h=>h
 | k + 1,i,_,h=>canon_pass k (i + 1) (canon_step i h)
theorem canon_rounds {l:List (List D)}:∀ (k:Nat) {s:RSt},canon s.1 → canon (roundsR l k s).1
 | 0,_,h=>h
 | k + 1,s,h=>by
   have h1:=canon_pass (l:=l) l.length 0 (s:=(s.1,s.2.1,-1)) h
   simp only [roundsR]
   split
   ·exact h1
   ·exact canon_rounds k h1
theorem canon_push (n:Int) (l:List (List D)):canon (pushR n l (zeros n)).1:=canon_rounds _ (canon_rep _ _)
theorem kept_mem {n:Int} {l:List (List D)} {p:Nat → Int}:(netN n l).kept p ↔ ∀ c ∈ l,p (ix c 0).toNat + ix c 2 ≤ p (ix c 1).toNat:=by
 constructor
 ·intro h c hc
  obtain ⟨i,hi,rfl⟩:=List.getElem_of_mem hc
  have:=h i hi
  simp only [netN,lkF,lkT,lkW] at this
  rw [List.getD_eq_getElem?_getD,List.getElem?_eq_getElem hi] at this
  exact this
 ·intro h i hi
  have hi':i < l.length:=hi
  have:=h l[i] (List.getElem_mem hi')
  simp only [netN,lkF,lkT,lkW]
  rw [List.getD_eq_getElem?_getD,List.getElem?_eq_getElem hi']
  exact this
theorem mem_extraF {c:List D}:∀ (k i:Nat),c ∈ extraF i k ↔ ∃ j,i ≤ j ∧ j < i + k ∧ c = [.i 0,.i (j:Int),.i 0]
 | 0, i=>by
   simp only [extraF,List.not_mem_nil,false_iff]
   rintro ⟨j,h1,h2,-⟩
   omega
 | k + 1,i=>by
   simp only [extraF,List.mem_cons,mem_extraF k (i + 1)]
   constructor
   ·rintro (h | ⟨j,h1,h2,h3⟩)
    ·exact ⟨i,Nat.le_refl _,by omega,h⟩
    ·exact ⟨j,by omega,by omega,h3⟩
   ·rintro ⟨j,h1,h2,h3⟩
    by_cases e:j = i
    ·subst e; exact .inl h3
    ·exact .inr ⟨j,by omega,by omega,h3⟩
theorem mem_linksF {u:Bool} {c:Int} {w ch:List (List D)} {x:List D}:∀ (k i:Nat),x ∈ linksF u c w ch i k ↔ ∃ j,i ≤ j ∧ j < i + k ∧ x ∈ linkJ u c w ch j
 | 0, i=>by
   simp only [linksF,List.not_mem_nil,false_iff]
   rintro ⟨j,h1,h2,-⟩
   omega
 | k + 1,i=>by
   simp only [linksF,List.mem_append,mem_linksF k (i + 1)]
   constructor
   ·rintro (h | ⟨j,h1,h2,h3⟩)
    ·exact ⟨i,Nat.le_refl _,by omega,h⟩
    ·exact ⟨j,by omega,by omega,h3⟩
   ·rintro ⟨j,h1,h2,h3⟩
    by_cases e:j = i
    ·subst e; exact .inl h3
    ·exact .inr ⟨j,by omega,by omega,h3⟩
def keptJ (u:Bool) (c:Int) (w ch:List (List D)) (p:Nat → Int) (j:Nat):Prop:=
 p (j + 1) + leW c w j ≤ p (j + 2) ∧ p (j + 2) - moW c w j ≤ p (j + 1) ∧ p 0 + (ix (w.getD j []) 1 + fromF w ch j) ≤ p (j + 1) ∧ (u = true → 0 ≤ rg ch j → p (j + 1) + (busyF c (w.getD j []) - ix (winF w ch j) 1) ≤ p 0)
theorem keptJ_iff {u:Bool} {c:Int} {w ch:List (List D)} {p:Nat → Int} {j:Nat}:(∀ x ∈ linkJ u c w ch j,p (ix x 0).toNat + ix x 2 ≤ p (ix x 1).toNat) ↔ keptJ u c w ch p j:=by
 have e1:((j:Int) + 1).toNat = j + 1:=by omega
 have e2:((j:Int) + 2).toNat = j + 2:=by omega
 have g0:∀ a b x:Int,ix (lk3 a b x) 0 = a:=fun _ _ _=>rfl
 have g1:∀ a b x:Int,ix (lk3 a b x) 1 = b:=fun _ _ _=>rfl
 have g2:∀ a b x:Int,ix (lk3 a b x) 2 = x:=fun _ _ _=>rfl
 unfold linkJ afterL closL keptJ fromF
 by_cases hc:0 ≤ rg ch j
 ·cases u with
  | true=>
    simp only [if_pos hc,if_true,List.mem_append,List.mem_cons,List.not_mem_nil,or_false]
    constructor
    ·intro h
     have h1:=h _ (.inl (.inl rfl))
     have h2:=h _ (.inl (.inr rfl))
     have h3:=h _ (.inr (.inl rfl))
     have h4:=h _ (.inr (.inr rfl))
     simp only [g0,g1,g2,e1,e2,Int.toNat_zero] at h1 h2 h3 h4
     exact ⟨h1,by omega,by omega,fun _ _=>h4⟩
    ·rintro ⟨h1,h2,h3,h4⟩ x ((rfl | rfl) | (rfl | rfl)) <;> simp only [g0,g1,g2,e1,e2,Int.toNat_zero]
     ·exact h1
     ·omega
     ·omega
     ·exact h4 (by trivial) hc
  | false=>
    simp only [if_pos hc,Bool.false_eq_true,if_false,List.mem_append,List.mem_cons,List.not_mem_nil,or_false,false_implies,and_true]
    constructor
    ·intro h
     have h1:=h _ (.inl (.inl rfl))
     have h2:=h _ (.inl (.inr rfl))
     have h3:=h _ (.inr rfl)
     simp only [g0,g1,g2,e1,e2,Int.toNat_zero] at h1 h2 h3
     exact ⟨h1,by omega,by omega⟩
    ·rintro ⟨h1,h2,h3⟩ x ((rfl | rfl) | rfl) <;> simp only [g0,g1,g2,e1,e2,Int.toNat_zero]
     ·exact h1
     ·omega
     ·omega
 ·simp only [if_neg hc,List.mem_append,List.mem_cons,List.not_mem_nil,or_false]
  constructor
  ·intro h
   have h1:=h _ (.inl (.inl rfl))
   have h2:=h _ (.inl (.inr rfl))
   have h3:=h _ (.inr rfl)
   simp only [g0,g1,g2,e1,e2,Int.toNat_zero] at h1 h2 h3
   exact ⟨h1,by omega,by omega,fun _ h=>absurd h hc⟩
  ·rintro ⟨h1,h2,h3,-⟩ x ((rfl | rfl) | rfl) <;> simp only [g0,g1,g2,e1,e2,Int.toNat_zero]
   ·exact h1
   ·omega
   ·omega
theorem kept_plan {u:Bool} {c f:Int} {w ch:List (List D)} {p:Nat → Int}:(netN (nP w) (allL (nP w) (linksP u c f w ch))).kept p ↔ p 0 + f ≤ p 1 ∧ (∀ j,j < w.length → keptJ u c w ch p j) ∧ ∀ j,j < w.length + 2 → p 0 ≤ p j:=by
 have g:∀ a b x:Int,ix (lk3 a b x) 0 = a ∧ ix (lk3 a b x) 1 = b ∧ ix (lk3 a b x) 2 = x:=fun _ _ _=>⟨rfl,rfl,rfl⟩
 have hn:(nP w).toNat = w.length + 2:=by unfold nP; omega
 rw [kept_mem]
 unfold allL linksP
 rw [hn]
 simp only [List.mem_append,List.mem_cons]
 constructor
 ·intro h
  refine ⟨?_,fun j hj=>keptJ_iff.1 fun x hx=>h x (.inl (.inr ((mem_linksF _ _).2 ⟨j,Nat.zero_le _,by omega,hx⟩))),fun j hj=>?_⟩
  ·have:=h _ (.inl (.inl rfl))
   rw [(g 0 1 f).1,(g 0 1 f).2.1,(g 0 1 f).2.2] at this
   exact this
  ·have:=h _ (.inr ((mem_extraF _ _).2 ⟨j,Nat.zero_le _,by omega,rfl⟩))
   simp only [ix,List.getD_cons_zero,List.getD_cons_succ,D.I,Int.toNat_zero,Int.toNat_natCast] at this
   omega
 ·rintro ⟨h1,h2,h3⟩ x ((rfl | hx) | hx)
  ·rw [(g 0 1 f).1,(g 0 1 f).2.1,(g 0 1 f).2.2]
   exact h1
  ·obtain ⟨j,-,hj,hx⟩:=(mem_linksF _ _).1 hx
   exact keptJ_iff.2 (h2 j (by omega)) x hx
  ·obtain ⟨j,-,hj,rfl⟩:=(mem_extraF _ _).1 hx
   have:=h3 j (by omega)
   simp only [ix,List.getD_cons_zero,List.getD_cons_succ,D.I,Int.toNat_zero,Int.toNat_natCast]
   omega
def s165:Sig:=⟨[.k (.int .i64)],[(.k (.int .i64),[])]⟩
def s164:SigW:=⟨[.sl 0 3],[.row [.int .i64,.int .i64,.int .i64]],[(.sl 0 3,[.row [.int .i64,.int .i64,.int .i64]])]⟩
def s163:Sig:=⟨[.agg [.k (.int .i64)],.agg [.k (.int .i64),.k (.int .i64),.k (.ro [.int .i64,.int .i64,.int .i64,.int .i64,.bool,.int .i64,.int .i64,.ro [.int .i64,.int .i64,.int .i64]])]],[(.sl 0 3,[.row [.int .i64,.int .i64,.int .i64]])]⟩
def s166:Sig:=⟨[.agg [.k (.int .i64)],.agg [.k (.int .i64),.k (.int .i64),.k (.ro [.int .i64,.int .i64,.int .i64,.int .i64,.bool,.int .i64,.int .i64,.ro [.int .i64,.int .i64,.int .i64]])]],[(.sl 0 3,[.row [.int .i64,.int .i64,.int .i64]])]⟩
def s167:Sig:=⟨[.agg [.k (.int .i64),.k (.opt [.int .i64,.int .i64,.int .i64])],.agg [.k (.int .i64),.k (.int .i64),.k (.ro [.int .i64,.int .i64,.int .i64,.int .i64,.bool,.int .i64,.int .i64,.ro [.int .i64,.int .i64,.int .i64]])]],[(.sl 0 3,[.row [.int .i64,.int .i64,.int .i64]]),(.pan 204,[])]⟩
def s113:SigW:=⟨[.agg [.k (.int .i64),.k (.int .i64),.k (.ro [.int .i64,.int .i64,.int .i64,.int .i64,.bool,.int .i64,.int .i64,.ro [.int .i64,.int .i64,.int .i64]])],.k (.ro [.int .i64])],[],[(.sl 0 1,[.row [.alt (KA.cons 239 [.int .i64] (KA.cons 241 [.int .i64] (KA.cons 244 [.int .i64,.opt [.int .i64,.int .i64,.int .i64]] KA.nil)))]])]⟩
def l113_3:LSig:=mkLS [1,5,15,16,17] [(51,[(1,.k (.ro [.int .i64])),(5,.sl 0 1),(15,.k (.ro [.int .i64,.int .i64,.int .i64,.int .i64,.bool,.int .i64,.int .i64,.ro [.int .i64,.int .i64,.int .i64]])),(16,.k (.int .i64)),(17,.k (.int .i64))],[.row [.alt (KA.cons 239 [.int .i64] (KA.cons 241 [.int .i64] (KA.cons 244 [.int .i64,.opt [.int .i64,.int .i64,.int .i64]] KA.nil)))]])] [(.exit 0,[5],[(51,[(5,.sl 0 1)],[.row [.alt (KA.cons 239 [.int .i64] (KA.cons 241 [.int .i64] (KA.cons 244 [.int .i64,.opt [.int .i64,.int .i64,.int .i64]] KA.nil)))]])])]
noncomputable section
def G165 (ds:List D):T (List D):=match ds with
 | [k]=>.need (yes (0 ≤ k.I ∧ k.I ≤ 1000)) (.leaf [.i (k.I + 1)])
 | _=>.fail
def G164 (ds:List D):T (List D):=match ds with
 | [n,r]=>.need (yes (0 ≤ n.I)) (.leaf [.i n.I,.l r.L])
 | _=>.fail
def G163 (ds:List D):T (List D):=match ds with
 | [a,_,_,_]=>.leaf [.i 1,.l [lk3 0 1 a.I]]
 | _=>.fail
def G166 (ds:List D):T (List D):=match ds with
 | [k,c,f,w]=>.need (yes (planB c.I f.I w.L = true ∧ 1 ≤ k.I ∧ k.I ≤ w.L.length)) (.leaf [.i 2,.l (afterL c.I w.L (k.I - 1).toNat)])
 | _=>.fail
def winOk (o:List (List D)):Prop:=o.isEmpty = false → hourB o 0 = true
def G167 (ds:List D):T (List D):=match ds with
 | [j, o, c,f,w]=>.need (yes (planB c.I f.I w.L = true ∧ 0 ≤ j.I ∧ j.I < w.L.length ∧ winOk o.L))
     (.ite o.L.isEmpty (.leaf [.i 0,.i 1,.l [lk3 0 (j.I + 1) (ix (w.L.getD j.I.toNat []) 1)]])
      (.ite (decide (ix (w.L.getD j.I.toNat []) 1 + busyF c.I (w.L.getD j.I.toNat []) > ix (o.L.getD 0 []) 2)) (.leaf [.i 1])
       (.leaf [.i 0,.i 2,.l [lk3 0 (j.I + 1) (ix (w.L.getD j.I.toNat []) 1 + ix (o.L.getD 0 []) 0),lk3 (j.I + 1) 0 (busyF c.I (w.L.getD j.I.toNat []) - ix (o.L.getD 0 []) 1)]])))
 | _=>.fail
def optF (w ch:List (List D)) (j:Nat):List (List D):=if 0 ≤ rg ch j then [lk3 (ix (winF w ch j) 0) (ix (winF w ch j) 1) (ix (winF w ch j) 2)] else []
def begE (f:Int):List D:=[.l [[.i 0,.i f]]]
def aftE (j:Nat):List D:=[.l [[.i 1,.i ((j:Int) + 1)]]]
def cloE (w ch:List (List D)) (j:Nat):List D:=[.l [[.i 2,.i (j:Int),.l (optF w ch j)]]]
def rulesF (w ch:List (List D)):Nat → Nat → List (List D)
 | _,0=>[]
 | j,k + 1=>aftE j :: cloE w ch j :: rulesF w ch (j + 1) k
def rulesP (f:Int) (w ch:List (List D)):List (List D):=begE f :: rulesF w ch 0 w.length
def G113 (ds:List D):T (List D):=match ds with
 | [c,f,w,ch]=>.need (yes (planB c.I f.I w.L = true ∧ chOK w.L ch.L)) (.leaf [.i (rulesP f.I w.L ch.L).length,.l (rulesP f.I w.L ch.L)])
 | _=>.fail
def G113_3 (ds:List D):T (Ex × List D):=match ds with
 | [ch, n,w,m,i,r]=>.need (yes (chOK w.L ch.L ∧ w.L.length ≤ 60 ∧ (∀ j,j < w.L.length → (lx (w.L.getD j []) 7).length ≤ 10) ∧ m.I = w.L.length ∧ 0 ≤ i.I ∧ i.I ≤ w.L.length ∧ n.I = r.L.length ∧ 0 < r.L.length ∧ r.L.length ≤ 2 * i.I + 1))
     (.leaf (.exit 0,[.i (r.L ++ rulesF w.L ch.L i.I.toNat (w.L.length - i.I.toNat)).length,.l (r.L ++ rulesF w.L ch.L i.I.toNat (w.L.length - i.I.toNat))]))
 | _=>.fail
end
noncomputable def sp165:SpL:=[]
noncomputable def lp165:LpL:=[]
noncomputable def sw165:SwL:=[]
noncomputable def tab165:Tab:=mkTab sp165 lp165 sw165
noncomputable def sp164:SpL:=[]
noncomputable def lp164:LpL:=[]
noncomputable def sw164:SwL:=[]
noncomputable def tab164:Tab:=mkTab sp164 lp164 sw164
noncomputable def sp163:SpL:=[(165,mkF s165 G165)]
noncomputable def lp163:LpL:=[]
noncomputable def sw163:SwL:=[(164,mkFW s164 G164)]
noncomputable def tab163:Tab:=mkTab sp163 lp163 sw163
noncomputable def sp166:SpL:=[(165,mkF s165 G165)]
noncomputable def lp166:LpL:=[]
noncomputable def sw166:SwL:=[(164,mkFW s164 G164)]
noncomputable def tab166:Tab:=mkTab sp166 lp166 sw166
noncomputable def sp167:SpL:=[(165,mkF s165 G165),(85,mkF s85 G85)]
noncomputable def lp167:LpL:=[]
noncomputable def sw167:SwL:=[(164,mkFW s164 G164)]
noncomputable def tab167:Tab:=mkTab sp167 lp167 sw167
noncomputable def sp113:SpL:=[]
noncomputable def lp113:LpL:=[(3,mkL l113_3 G113_3)]
noncomputable def sw113:SwL:=[]
noncomputable def tab113:Tab:=mkTab sp113 lp113 sw113
set_option linter.unusedVariables false
set_option maxRecDepth 100000
theorem t165 (a:D):fnT C tab165 165 s165 [a] =
 T.leaf [D.i (IntKind.i64.wrap ((1:Int) + a.I))]:=by kernel_rfl
theorem t164 (a b:D):fnTW C tab164 164 s164 [a,b] =
 T.leaf [D.i (a.I.toNat:Int),D.l b.L]:=by kernel_rfl
theorem t163 (a b c d:D):fnT C tab163 163 s163 [a,b,c,d] =
 T.need (yes ((0:Int) ≤ (0:Int) ∧ (0:Int) ≤ (1000:Int))) (T.need (yes ((0:Int) ≤ (↑(List.length [[D.i 0,D.i ((0:Int) + (1:Int)),D.i a.I]]):Int))) (T.leaf [D.i 1,D.l [[D.i 0,D.i 1,D.i a.I]]])):=by kernel_rfl
theorem t166 (a b c d:D):fnT C tab166 166 s166 [a,b,c,d] =
 T.need (yes ((0:Int) ≤ IntKind.i64.wrap (a.I - (1:Int)) ∧ IntKind.i64.wrap (a.I - (1:Int)) ≤ (1000:Int))) (T.need (yes ((0:Int) ≤ a.I ∧ a.I ≤ (1000:Int))) (T.need (decide ((0:Int) ≤ IntKind.i64.wrap (a.I - (1:Int)) ∧ IntKind.i64.wrap (a.I - (1:Int)) < (d.L.length:Int))) (T.ite (decide (a.I < (d.L.length:Int))) (T.need (decide ((0:Int) ≤ a.I ∧ a.I < (d.L.length:Int))) (T.ite (D.B (List.getD (List.getD d.L a.I.toNat []) (0 + 1 + 1 + 1 + 1) default)) (T.need (decide ((0:Int) ≤ a.I ∧ a.I < (d.L.length:Int))) (T.need (decide ((0:Int) ≤ a.I ∧ a.I < (d.L.length:Int))) (T.need (yes ((0:Int) ≤ (↑(List.length [[D.i (IntKind.i64.wrap (a.I - (1:Int)) + (1:Int)),D.i (a.I + (1:Int)),D.i (IntKind.i64.wrap (IntKind.i64.wrap (D.I (List.getD (List.getD d.L (Int.toNat (IntKind.i64.wrap (a.I - (1:Int)))) []) 0 default) + IntKind.i64.wrap (IntKind.i64.wrap (b.I - (1:Int)) * D.I (List.getD (List.getD d.L (Int.toNat (IntKind.i64.wrap (a.I - (1:Int)))) []) (0 + 1 + 1 + 1) default))) + D.I (List.getD (List.getD d.L a.I.toNat []) (0 + 1 + 1 + 1 + 1 + 1) default)))],[D.i (a.I + (1:Int)),D.i (IntKind.i64.wrap (a.I - (1:Int)) + (1:Int)),D.i (IntKind.i64.wrap ((0:Int) - IntKind.i64.wrap (IntKind.i64.wrap (D.I (List.getD (List.getD d.L (Int.toNat (IntKind.i64.wrap (a.I - (1:Int)))) []) 0 default) + IntKind.i64.wrap (IntKind.i64.wrap (b.I - (1:Int)) * D.I (List.getD (List.getD d.L (Int.toNat (IntKind.i64.wrap (a.I - (1:Int)))) []) (0 + 1 + 1 + 1) default))) + D.I (List.getD (List.getD d.L a.I.toNat []) (0 + 1 + 1 + 1 + 1 + 1 + 1) default))))]]):Int))) (T.leaf [D.i 2,D.l [[D.i (IntKind.i64.wrap (a.I - (1:Int)) + (1:Int)),D.i (a.I + (1:Int)),D.i (IntKind.i64.wrap (IntKind.i64.wrap (D.I (List.getD (List.getD d.L (Int.toNat (IntKind.i64.wrap (a.I - (1:Int)))) []) 0 default) + IntKind.i64.wrap (IntKind.i64.wrap (b.I - (1:Int)) * D.I (List.getD (List.getD d.L (Int.toNat (IntKind.i64.wrap (a.I - (1:Int)))) []) (0 + 1 + 1 + 1) default))) + D.I (List.getD (List.getD d.L a.I.toNat []) (0 + 1 + 1 + 1 + 1 + 1) default)))],[D.i (a.I + (1:Int)),D.i (IntKind.i64.wrap (a.I - (1:Int)) + (1:Int)),D.i (IntKind.i64.wrap ((0:Int) - IntKind.i64.wrap (IntKind.i64.wrap (D.I (List.getD (List.getD d.L (Int.toNat (IntKind.i64.wrap (a.I - (1:Int)))) []) 0 default) + IntKind.i64.wrap (IntKind.i64.wrap (b.I - (1:Int)) * D.I (List.getD (List.getD d.L (Int.toNat (IntKind.i64.wrap (a.I - (1:Int)))) []) (0 + 1 + 1 + 1) default))) + D.I (List.getD (List.getD d.L a.I.toNat []) (0 + 1 + 1 + 1 + 1 + 1 + 1) default))))]]])))) (T.need (yes ((0:Int) ≤ (↑(List.length [[D.i (IntKind.i64.wrap (a.I - (1:Int)) + (1:Int)),D.i (a.I + (1:Int)),D.i (D.I (List.getD (List.getD d.L (Int.toNat (IntKind.i64.wrap (a.I - (1:Int)))) []) 0 default))],[D.i (a.I + (1:Int)),D.i (IntKind.i64.wrap (a.I - (1:Int)) + (1:Int)),D.i (IntKind.i64.wrap ((0:Int) - D.I (List.getD (List.getD d.L (Int.toNat (IntKind.i64.wrap (a.I - (1:Int)))) []) 0 default)))]]):Int))) (T.leaf [D.i 2,D.l [[D.i (IntKind.i64.wrap (a.I - (1:Int)) + (1:Int)),D.i (a.I + (1:Int)),D.i (D.I (List.getD (List.getD d.L (Int.toNat (IntKind.i64.wrap (a.I - (1:Int)))) []) 0 default))],[D.i (a.I + (1:Int)),D.i (IntKind.i64.wrap (a.I - (1:Int)) + (1:Int)),D.i (IntKind.i64.wrap ((0:Int) - D.I (List.getD (List.getD d.L (Int.toNat (IntKind.i64.wrap (a.I - (1:Int)))) []) 0 default)))]]])))) (T.need (yes ((0:Int) ≤ (↑(List.length [[D.i (IntKind.i64.wrap (a.I - (1:Int)) + (1:Int)),D.i (a.I + (1:Int)),D.i (D.I (List.getD (List.getD d.L (Int.toNat (IntKind.i64.wrap (a.I - (1:Int)))) []) 0 default))],[D.i (a.I + (1:Int)),D.i (IntKind.i64.wrap (a.I - (1:Int)) + (1:Int)),D.i (IntKind.i64.wrap ((0:Int) - D.I (List.getD (List.getD d.L (Int.toNat (IntKind.i64.wrap (a.I - (1:Int)))) []) 0 default)))]]):Int))) (T.leaf [D.i 2,D.l [[D.i (IntKind.i64.wrap (a.I - (1:Int)) + (1:Int)),D.i (a.I + (1:Int)),D.i (D.I (List.getD (List.getD d.L (Int.toNat (IntKind.i64.wrap (a.I - (1:Int)))) []) 0 default))],[D.i (a.I + (1:Int)),D.i (IntKind.i64.wrap (a.I - (1:Int)) + (1:Int)),D.i (IntKind.i64.wrap ((0:Int) - D.I (List.getD (List.getD d.L (Int.toNat (IntKind.i64.wrap (a.I - (1:Int)))) []) 0 default)))]]]))))):=by kernel_rfl
theorem t167 (a b c d e:D):fnT C tab167 167 s167 [a,b,c,d,e] =
 T.need (decide ((0:Int) ≤ a.I ∧ a.I < (e.L.length:Int))) (T.need (yes ((0:Int) ≤ a.I ∧ a.I ≤ (1000:Int))) (T.ite (List.isEmpty b.L) (T.need (yes ((0:Int) ≤ (↑(List.length [[D.i 0,D.i (a.I + (1:Int)),D.i (D.I (List.getD (List.getD e.L a.I.toNat []) (0 + 1) default))]]):Int))) (T.leaf [D.i 0,D.i 1,D.l [[D.i 0,D.i (a.I + (1:Int)),D.i (D.I (List.getD (List.getD e.L a.I.toNat []) (0 + 1) default))]]])) (T.need (yes (planB c.I d.I e.L = true ∧ (0:Int) ≤ a.I ∧ a.I < (e.L.length:Int))) (T.need (!List.isEmpty b.L) (T.ite (decide (IntKind.i64.wrap (D.I (List.getD (List.getD e.L a.I.toNat []) (0 + 1) default) + busyF c.I (List.getD e.L a.I.toNat [])) > D.I (List.getD (List.getD b.L 0 []) (0 + 1 + 1) default))) (T.leaf [D.i 1]) (T.need (!List.isEmpty b.L) (T.need (yes (planB c.I d.I e.L = true ∧ (0:Int) ≤ a.I ∧ a.I < (e.L.length:Int))) (T.need (!List.isEmpty b.L) (T.need (yes ((0:Int) ≤ (↑(List.length [[D.i 0,D.i (a.I + (1:Int)),D.i (IntKind.i64.wrap (D.I (List.getD (List.getD e.L a.I.toNat []) (0 + 1) default) + D.I (List.getD (List.getD b.L 0 []) 0 default)))],[D.i (a.I + (1:Int)),D.i 0,D.i (IntKind.i64.wrap (busyF c.I (List.getD e.L a.I.toNat []) - D.I (List.getD (List.getD b.L 0 []) (0 + 1) default)))]]):Int))) (T.leaf [D.i 0,D.i 2,D.l [[D.i 0,D.i (a.I + (1:Int)),D.i (IntKind.i64.wrap (D.I (List.getD (List.getD e.L a.I.toNat []) (0 + 1) default) + D.I (List.getD (List.getD b.L 0 []) 0 default)))],[D.i (a.I + (1:Int)),D.i 0,D.i (IntKind.i64.wrap (busyF c.I (List.getD e.L a.I.toNat []) - D.I (List.getD (List.getD b.L 0 []) (0 + 1) default)))]]])))))))))):=by kernel_rfl
theorem t113 (a b c d:D):fnTW C tab113 113 s113 [a,b,c,d] =
 T.need (yes (chOK c.L d.L ∧ c.L.length ≤ 60 ∧ (∀ (j:Nat),j < c.L.length → List.length (lx (List.getD c.L j []) 7) ≤ 10) ∧ (c.L.length:Int) = (c.L.length:Int) ∧ (0:Int) ≤ (0:Int) ∧ (0:Int) ≤ (c.L.length:Int) ∧ (↑(List.length [[D.l [[D.i (↑0:Int),D.i b.I]]]]):Int) = (↑(List.length [[D.l [[D.i (↑0:Int),D.i b.I]]]]):Int) ∧ 0 < List.length [[D.l [[D.i (↑0:Int),D.i b.I]]]] ∧ (↑(List.length [[D.l [[D.i (↑0:Int),D.i b.I]]]]):Int) ≤ (2:Int) * (0:Int) + (1:Int))) (T.leaf [D.i (↑(Int.toNat (↑(List.length ([[D.l [[D.i (↑0:Int),D.i b.I]]]] ++ rulesF c.L d.L (Int.toNat (0:Int)) (c.L.length - Int.toNat (0:Int)))):Int)):Int),D.l ([D.l [[D.i 0,D.i b.I]]] :: List.append._f [] PUnit.unit (rulesF c.L d.L (Int.toNat (0:Int)) (c.L.length - Int.toNat (0:Int))))]):=by kernel_rfl
theorem t113_3 (a b c d e f:D):roundT C tab113 113 (loopOf C.P 113 3) l113_3 [a,b,c,d,e,f] =
 T.ite (decide (e.I < d.I)) (T.need (decide ((0:Int) ≤ e.I ∧ e.I < (c.L.length:Int))) (T.need true (T.ite false (T.need (decide ((0:Int) ≤ e.I ∧ e.I < (a.L.length:Int))) (T.ite (decide (D.I (List.getD (List.getD a.L e.I.toNat []) 0 default) ≥ (0:Int))) (T.need (decide ((0:Int) ≤ e.I ∧ e.I < (a.L.length:Int))) (T.need (decide ((0:Int) ≤ D.I (List.getD (List.getD a.L e.I.toNat []) 0 default) ∧ D.I (List.getD (List.getD a.L e.I.toNat []) 0 default) < (↑(List.length (D.L (List.getD (List.getD c.L e.I.toNat []) (0 + 1 + 1 + 1 + 1 + 1 + 1 + 1) default))):Int))) (T.need true (T.ite false (T.leaf (Rd.again [D.l a.L,D.i (b.I.toNat:Int),D.l c.L,D.i d.I,D.i (IntKind.i64.wrap (e.I + (1:Int))),D.l f.L])) (T.need (decide (b.I.toNat ≤ f.L.length ∧ b.I.toNat + 1 ≤ 2 ^ 62 ∧ (b.I.toNat + 1) * Try.prog.types[211].bytes ≤ 2 ^ 47)) (T.leaf (Rd.again [D.l a.L,D.i (↑(b.I.toNat + 1):Int),D.l c.L,D.i d.I,D.i (IntKind.i64.wrap (e.I + (1:Int))),D.l (List.take b.I.toNat f.L ++ List.take (List.length [[D.l [[D.i (↑(0 + 1 + 1):Int),D.i e.I,D.l [[D.i (D.I (List.getD (List.getD (D.L (List.getD (List.getD c.L e.I.toNat []) (0 + 1 + 1 + 1 + 1 + 1 + 1 + 1) default)) (Int.toNat (D.I (List.getD (List.getD a.L e.I.toNat []) 0 default))) []) 0 default)),D.i (D.I (List.getD (List.getD (D.L (List.getD (List.getD c.L e.I.toNat []) (0 + 1 + 1 + 1 + 1 + 1 + 1 + 1) default)) (Int.toNat (D.I (List.getD (List.getD a.L e.I.toNat []) 0 default))) []) (0 + 1) default)),D.i (D.I (List.getD (List.getD (D.L (List.getD (List.getD c.L e.I.toNat []) (0 + 1 + 1 + 1 + 1 + 1 + 1 + 1) default)) (Int.toNat (D.I (List.getD (List.getD a.L e.I.toNat []) 0 default))) []) (0 + 1 + 1) default))]]]]]]) [[D.l [[D.i (↑(0 + 1 + 1):Int),D.i e.I,D.l [[D.i (D.I (List.getD (List.getD (D.L (List.getD (List.getD c.L e.I.toNat []) (0 + 1 + 1 + 1 + 1 + 1 + 1 + 1) default)) (Int.toNat (D.I (List.getD (List.getD a.L e.I.toNat []) 0 default))) []) 0 default)),D.i (D.I (List.getD (List.getD (D.L (List.getD (List.getD c.L e.I.toNat []) (0 + 1 + 1 + 1 + 1 + 1 + 1 + 1) default)) (Int.toNat (D.I (List.getD (List.getD a.L e.I.toNat []) 0 default))) []) (0 + 1) default)),D.i (D.I (List.getD (List.getD (D.L (List.getD (List.getD c.L e.I.toNat []) (0 + 1 + 1 + 1 + 1 + 1 + 1 + 1) default)) (Int.toNat (D.I (List.getD (List.getD a.L e.I.toNat []) 0 default))) []) (0 + 1 + 1) default))]]]]]])]))))))) (T.need true (T.ite false (T.leaf (Rd.again [D.l a.L,D.i (b.I.toNat:Int),D.l c.L,D.i d.I,D.i (IntKind.i64.wrap (e.I + (1:Int))),D.l f.L])) (T.need (decide (b.I.toNat ≤ f.L.length ∧ b.I.toNat + 1 ≤ 2 ^ 62 ∧ (b.I.toNat + 1) * Try.prog.types[211].bytes ≤ 2 ^ 47)) (T.leaf (Rd.again [D.l a.L,D.i (↑(b.I.toNat + 1):Int),D.l c.L,D.i d.I,D.i (IntKind.i64.wrap (e.I + (1:Int))),D.l (List.take b.I.toNat f.L ++ List.take (List.length [[D.l [[D.i (↑(0 + 1 + 1):Int),D.i e.I,D.l []]]]]) [[D.l [[D.i (↑(0 + 1 + 1):Int),D.i e.I,D.l []]]]])]))))))) (T.need (decide (b.I.toNat ≤ f.L.length ∧ b.I.toNat + 1 ≤ 2 ^ 62 ∧ (b.I.toNat + 1) * Try.prog.types[211].bytes ≤ 2 ^ 47)) (T.need (decide ((0:Int) ≤ e.I ∧ e.I < (a.L.length:Int))) (T.ite (decide (D.I (List.getD (List.getD a.L e.I.toNat []) 0 default) ≥ (0:Int))) (T.need (decide ((0:Int) ≤ e.I ∧ e.I < (a.L.length:Int))) (T.need (decide ((0:Int) ≤ D.I (List.getD (List.getD a.L e.I.toNat []) 0 default) ∧ D.I (List.getD (List.getD a.L e.I.toNat []) 0 default) < (↑(List.length (D.L (List.getD (List.getD c.L e.I.toNat []) (0 + 1 + 1 + 1 + 1 + 1 + 1 + 1) default))):Int))) (T.need true (T.ite false (T.leaf (Rd.again [D.l a.L,D.i (↑(b.I.toNat + 1):Int),D.l c.L,D.i d.I,D.i (IntKind.i64.wrap (e.I + (1:Int))),D.l (List.take b.I.toNat f.L ++ List.take (List.length [[D.l [[D.i (↑(0 + 1):Int),D.i (IntKind.i64.wrap (e.I + (1:Int)))]]]]) [[D.l [[D.i (↑(0 + 1):Int),D.i (IntKind.i64.wrap (e.I + (1:Int)))]]]])])) (T.need (decide (b.I.toNat + 1 ≤ List.length (List.take b.I.toNat f.L ++ List.take (List.length [[D.l [[D.i (↑(0 + 1):Int),D.i (IntKind.i64.wrap (e.I + (1:Int)))]]]]) [[D.l [[D.i (↑(0 + 1):Int),D.i (IntKind.i64.wrap (e.I + (1:Int)))]]]]) ∧ b.I.toNat + 1 + 1 ≤ 2 ^ 62 ∧ (b.I.toNat + 1 + 1) * Try.prog.types[211].bytes ≤ 2 ^ 47)) (T.leaf (Rd.again [D.l a.L,D.i (↑(b.I.toNat + 1 + 1):Int),D.l c.L,D.i d.I,D.i (IntKind.i64.wrap (e.I + (1:Int))),D.l (List.take (b.I.toNat + 1) (List.take b.I.toNat f.L ++ List.take (List.length [[D.l [[D.i (↑(0 + 1):Int),D.i (IntKind.i64.wrap (e.I + (1:Int)))]]]]) [[D.l [[D.i (↑(0 + 1):Int),D.i (IntKind.i64.wrap (e.I + (1:Int)))]]]]) ++ List.take (List.length [[D.l [[D.i (↑(0 + 1 + 1):Int),D.i e.I,D.l [[D.i (D.I (List.getD (List.getD (D.L (List.getD (List.getD c.L e.I.toNat []) (0 + 1 + 1 + 1 + 1 + 1 + 1 + 1) default)) (Int.toNat (D.I (List.getD (List.getD a.L e.I.toNat []) 0 default))) []) 0 default)),D.i (D.I (List.getD (List.getD (D.L (List.getD (List.getD c.L e.I.toNat []) (0 + 1 + 1 + 1 + 1 + 1 + 1 + 1) default)) (Int.toNat (D.I (List.getD (List.getD a.L e.I.toNat []) 0 default))) []) (0 + 1) default)),D.i (D.I (List.getD (List.getD (D.L (List.getD (List.getD c.L e.I.toNat []) (0 + 1 + 1 + 1 + 1 + 1 + 1 + 1) default)) (Int.toNat (D.I (List.getD (List.getD a.L e.I.toNat []) 0 default))) []) (0 + 1 + 1) default))]]]]]]) [[D.l [[D.i (↑(0 + 1 + 1):Int),D.i e.I,D.l [[D.i (D.I (List.getD (List.getD (D.L (List.getD (List.getD c.L e.I.toNat []) (0 + 1 + 1 + 1 + 1 + 1 + 1 + 1) default)) (Int.toNat (D.I (List.getD (List.getD a.L e.I.toNat []) 0 default))) []) 0 default)),D.i (D.I (List.getD (List.getD (D.L (List.getD (List.getD c.L e.I.toNat []) (0 + 1 + 1 + 1 + 1 + 1 + 1 + 1) default)) (Int.toNat (D.I (List.getD (List.getD a.L e.I.toNat []) 0 default))) []) (0 + 1) default)),D.i (D.I (List.getD (List.getD (D.L (List.getD (List.getD c.L e.I.toNat []) (0 + 1 + 1 + 1 + 1 + 1 + 1 + 1) default)) (Int.toNat (D.I (List.getD (List.getD a.L e.I.toNat []) 0 default))) []) (0 + 1 + 1) default))]]]]]])]))))))) (T.need true (T.ite false (T.leaf (Rd.again [D.l a.L,D.i (↑(b.I.toNat + 1):Int),D.l c.L,D.i d.I,D.i (IntKind.i64.wrap (e.I + (1:Int))),D.l (List.take b.I.toNat f.L ++ List.take (List.length [[D.l [[D.i (↑(0 + 1):Int),D.i (IntKind.i64.wrap (e.I + (1:Int)))]]]]) [[D.l [[D.i (↑(0 + 1):Int),D.i (IntKind.i64.wrap (e.I + (1:Int)))]]]])])) (T.need (decide (b.I.toNat + 1 ≤ List.length (List.take b.I.toNat f.L ++ List.take (List.length [[D.l [[D.i (↑(0 + 1):Int),D.i (IntKind.i64.wrap (e.I + (1:Int)))]]]]) [[D.l [[D.i (↑(0 + 1):Int),D.i (IntKind.i64.wrap (e.I + (1:Int)))]]]]) ∧ b.I.toNat + 1 + 1 ≤ 2 ^ 62 ∧ (b.I.toNat + 1 + 1) * Try.prog.types[211].bytes ≤ 2 ^ 47)) (T.leaf (Rd.again [D.l a.L,D.i (↑(b.I.toNat + 1 + 1):Int),D.l c.L,D.i d.I,D.i (IntKind.i64.wrap (e.I + (1:Int))),D.l (List.take (b.I.toNat + 1) (List.take b.I.toNat f.L ++ List.take (List.length [[D.l [[D.i (↑(0 + 1):Int),D.i (IntKind.i64.wrap (e.I + (1:Int)))]]]]) [[D.l [[D.i (↑(0 + 1):Int),D.i (IntKind.i64.wrap (e.I + (1:Int)))]]]]) ++ List.take (List.length [[D.l [[D.i (↑(0 + 1 + 1):Int),D.i e.I,D.l []]]]]) [[D.l [[D.i (↑(0 + 1 + 1):Int),D.i e.I,D.l []]]]])]))))))))))) (T.leaf (Rd.out (Ex.exit 0) [D.i (b.I.toNat:Int),D.l f.L])):=by kernel_rfl
set_option maxRecDepth 100000
theorem bytes211:Try.prog.types[211].bytes = 16:=by kernel_rfl
theorem runF {α:Type} {a b:T α}:(T.ite false a b).run = b.run:=rfl
theorem ok165 (n:Nat):FnOK C (n + 1) 165 (mkF s165 G165):=by
 refine fn_ofS hC (sp:=sp165) (lp:=lp165) (sw:=sw165) trivial trivial (by kernel_rfl) [] (by kernel_rfl) rfl (fun k hk=>by cases hk) fun ds rr h=>?_
 unfold G165 at h
 split at h
 ·rename_i k
  obtain ⟨hp,h⟩:=need_some h
  rw [yes_iff] at hp
  refine (congrArg T.run (t165 k)).trans ?_
  rw [← h,wrap_id (x:=1 + k.I) (by omega) (by omega),Int.add_comm]
 ·cases h
theorem ok164 (n:Nat):FnOKW C (n + 1) 164 (mkFW s164 G164):=by
 refine fn_ofW hC (sp:=sp164) (lp:=lp164) (sw:=sw164) trivial trivial (by kernel_rfl) [] (by kernel_rfl) (by kernel_rfl) (fun k hk=>by cases hk) fun ds rr h=>?_
 unfold G164 at h
 split at h
 ·rename_i m r
  obtain ⟨hp,h⟩:=need_some h
  rw [yes_iff] at hp
  refine (congrArg T.run (t164 m r)).trans ?_
  rw [← h,Int.toNat_of_nonneg hp]
 ·cases h
theorem ok163 (n:Nat):FnOK C (n + 2) 163 (mkF s163 G163):=by
 refine fn_ofS hC (sp:=sp163) (lp:=lp163) (sw:=sw163) ⟨ok165 n,trivial⟩ ⟨ok164 n,trivial⟩ (by kernel_rfl) [] (by kernel_rfl) rfl (fun k hk=>by cases hk) fun ds rr h=>?_
 unfold G163 at h
 split at h
 ·rename_i a c f w
  refine (congrArg T.run (t163 a c f w)).trans ?_
  rw [← h]
  exact go_yes (by omega) (go_yes (by omega) rfl)
 ·cases h
theorem ok166 (n:Nat):FnOK C (n + 2) 166 (mkF s166 G166):=by
 refine fn_ofS hC (sp:=sp166) (lp:=lp166) (sw:=sw166) ⟨ok165 n,trivial⟩ ⟨ok164 n,trivial⟩ (by kernel_rfl) [] (by kernel_rfl) rfl (fun k hk=>by cases hk) fun ds rr h=>?_
 unfold G166 at h
 split at h
 ·rename_i a c f w
  obtain ⟨hp,h⟩:=need_some h
  rw [yes_iff] at hp
  obtain ⟨hp,h1,h2⟩:=hp
  refine (congrArg T.run (t166 a c f w)).trans ?_
  rw [← h]
  obtain ⟨p1,p2,-⟩:=plan_of hp
  obtain ⟨k,hk⟩:∃ k:Nat,a.I = (k:Int) + 1:=⟨(a.I - 1).toNat,by omega⟩
  have hkl:k < w.L.length:=by omega
  have s1:=span_of hp hkl
  have c1:=wayC_of (way_of hp hkl).1
  have e0:IntKind.i64.wrap ((k:Int) + 1 - 1) = (k:Int):=(wrap_id (by omega) (by omega)).trans (by omega)
  have e1:((k:Int) + 1 - 1).toNat = k:=by omega
  have e2:((k:Int) + 1).toNat = k + 1:=by omega
  have e3:IntKind.i64.wrap (c.I - 1) = c.I - 1:=wrap_id (by omega) (by omega)
  unfold spanF at s1
  have e4:IntKind.i64.wrap ((c.I - 1) * ix (w.L.getD k []) 3) = (c.I - 1) * ix (w.L.getD k []) 3:=wrap_id (by omega) (by omega)
  have e5:IntKind.i64.wrap (ix (w.L.getD k []) 0 + (c.I - 1) * ix (w.L.getD k []) 3) = ix (w.L.getD k []) 0 + (c.I - 1) * ix (w.L.getD k []) 3:=wrap_id (by omega) (by omega)
  have e6:IntKind.i64.wrap (0 - ix (w.L.getD k []) 0) = 0 - ix (w.L.getD k []) 0:=wrap_id (by omega) (by omega)
  simp only [hk,e0,e1,e2,e3,Nat.reduceAdd,ix_def,Int.toNat_natCast,e4,e5,e6]
  refine go_yes (by omega) (go_yes (by omega) (go_dec (by omega) (go_if (fun hlt=>?_) fun hge=>?_)))
  ·have c2:=wayC_of (way_of hp (k:=k + 1) (by omega)).1
   refine go_dec (by omega) (go_ite (fun hb=>go_dec (by omega) (go_dec (by omega) ?_)) fun hb=>?_)
   ·rw [wrap_id (x:=ix (w.L.getD k []) 0 + (c.I - 1) * ix (w.L.getD k []) 3 + ix (w.L.getD (k + 1) []) 5) (by omega) (by omega),wrap_id (x:=ix (w.L.getD k []) 0 + (c.I - 1) * ix (w.L.getD k []) 3 + ix (w.L.getD (k + 1) []) 6) (by omega) (by omega),
     wrap_id (x:=0 - (ix (w.L.getD k []) 0 + (c.I - 1) * ix (w.L.getD k []) 3 + ix (w.L.getD (k + 1) []) 6)) (by omega) (by omega)]
    have hc:k + 1 < w.L.length ∧ bx (w.L.getD (k + 1) []) 4 = true:=⟨by omega,hb⟩
    unfold afterL leW moW lk3 spanF
    rw [if_pos hc,if_pos hc]
    refine go_yes (by omega) ?_
    simp only [run_leaf,Option.some.injEq,List.cons.injEq,D.i.injEq,D.l.injEq,and_true,true_and]
    omega
   ·have hc:¬ (k + 1 < w.L.length ∧ bx (w.L.getD (k + 1) []) 4 = true):=fun hh=>by
     have:bx (w.L.getD (k + 1) []) 4 = false:=hb
     rw [this] at hh
     cases hh.2
    unfold afterL leW moW lk3
    rw [if_neg hc,if_neg hc]
    refine go_yes (by omega) ?_
    simp only [run_leaf,Option.some.injEq,List.cons.injEq,D.i.injEq,D.l.injEq,and_true,true_and]
    omega
  ·have hc:¬ (k + 1 < w.L.length ∧ bx (w.L.getD (k + 1) []) 4 = true):=fun hh=>by omega
   unfold afterL leW moW lk3
   rw [if_neg hc,if_neg hc]
   refine go_yes (by omega) ?_
   simp only [run_leaf,Option.some.injEq,List.cons.injEq,D.i.injEq,D.l.injEq,and_true,true_and]
   omega
 ·cases h
theorem hourB_of {l:List (List D)} {k:Nat} (h:hourB l k = true):(0 ≤ ix (l.getD k []) 0 ∧ ix (l.getD k []) 0 ≤ ix (l.getD k []) 1) ∧ ix (l.getD k []) 1 ≤ 200000 ∧ 0 ≤ ix (l.getD k []) 2 ∧ ix (l.getD k []) 2 ≤ 200000:=of_decide_eq_true h
theorem ok167 (n:Nat):FnOK C (n + 2) 167 (mkF s167 G167):=by
 refine fn_ofS hC (sp:=sp167) (lp:=lp167) (sw:=sw167) ⟨ok165 n,ok85 n,trivial⟩ ⟨ok164 n,trivial⟩ (by kernel_rfl) [] (by kernel_rfl) rfl (fun k hk=>by cases hk) fun ds rr h=>?_
 unfold G167 at h
 split at h
 ·rename_i j o c f w
  obtain ⟨hp,h⟩:=need_some h
  rw [yes_iff] at hp
  obtain ⟨hp,h1,h2,hw⟩:=hp
  refine (congrArg T.run (t167 j o c f w)).trans ?_
  rw [← h]
  obtain ⟨p1,p2,-⟩:=plan_of hp
  have hjl:j.I.toNat < w.L.length:=by omega
  have s1:=span_of hp hjl
  have c1:=wayC_of (way_of hp hjl).1
  have hb:0 ≤ busyF c.I (w.L.getD j.I.toNat []) ∧ busyF c.I (w.L.getD j.I.toNat []) ≤ 14000:=by unfold busyF; omega
  simp only [Nat.reduceAdd,ix_def]
  refine go_dec (by omega) (go_yes (by omega) ?_)
  cases hem:o.L.isEmpty with
  | true=>exact go_yes (by omega) rfl
  | false=>
    have hh:=hourB_of (hw hem)
    have e1:IntKind.i64.wrap (ix (w.L.getD j.I.toNat []) 1 + busyF c.I (w.L.getD j.I.toNat [])) = ix (w.L.getD j.I.toNat []) 1 + busyF c.I (w.L.getD j.I.toNat []):=wrap_id (by omega) (by omega)
    have e2:IntKind.i64.wrap (ix (w.L.getD j.I.toNat []) 1 + ix (o.L.getD 0 []) 0) = ix (w.L.getD j.I.toNat []) 1 + ix (o.L.getD 0 []) 0:=wrap_id (by omega) (by omega)
    have e3:IntKind.i64.wrap (busyF c.I (w.L.getD j.I.toNat []) - ix (o.L.getD 0 []) 1) = busyF c.I (w.L.getD j.I.toNat []) - ix (o.L.getD 0 []) 1:=wrap_id (by omega) (by omega)
    simp only [e1,e2,e3]
    rw [runF]
    refine go_yes ⟨hp,h1,h2⟩ (go_need rfl ?_)
    rw [runF]
    refine go_if (fun hgt=>?_) fun hle=>?_
    ·rw [run_ite,if_pos (decide_eq_true hgt)]
    ·rw [run_ite,if_neg (by simpa using hle)]
     exact go_need rfl (go_yes ⟨hp,h1,h2⟩ (go_need rfl (go_yes (by omega) rfl)))
 ·cases h
theorem len_rulesF (w ch:List (List D)):∀ (k i:Nat),(rulesF w ch i k).length = 2 * k
 | 0,_=>rfl
 | k + 1,i=>by simp only [rulesF,List.length_cons,len_rulesF w ch k (i + 1)]; omega
theorem len_rulesP (f:Int) (w ch:List (List D)):(rulesP f w ch).length = 2 * w.length + 1:=by simp only [rulesP,List.length_cons,len_rulesF]
theorem ok113_3 (n:Nat):LoopSimK C (n + 0) 0 113 (loopOf C.P 113 3) (mkLK 0 l113_3 G113_3):=by
 refine loop_ofK hC (sp:=sp113) (lp:=lp113) (sw:=sw113) trivial trivial 0 [] (by kernel_rfl) rfl (fun k hk=>by cases hk) (by kernel_rfl) (fun ds=>((ds.getD 3 default).I - (ds.getD 4 default).I).toNat) fun ds rr h=>?_
 unfold G113_3 at h
 split at h
 ·rename_i ch nn w m i r
  obtain ⟨hp,h⟩:=need_some h
  rw [yes_iff] at hp
  obtain ⟨hc,hw,hh,hm,hi0,hi1,hn,hr0,hr1⟩:=hp
  have hb:=big_eq
  refine ⟨by rw [fuelC]; simp; omega,?_⟩
  rw [show roundTK C (mkTab sp113 lp113 sw113) 113 (loopOf C.P 113 3) 0 l113_3 [ch,nn,w,m,i,r] = _ from t113_3 ch nn w m i r]
  obtain ⟨k,hk⟩:∃ k:Nat,i.I = k:=⟨i.I.toNat,by omega⟩
  have t1:∀ x:List D,List.take 1 [x] = [x]:=fun _=>rfl
  have t2:∀ x:List D,(r.L ++ [x]).take (r.L.length + 1) = r.L ++ [x]:=fun x=>List.take_of_length_le (by simp)
  simp only [hk,hm,hn,Int.toNat_natCast,t1,bytes211,Nat.reduceAdd,List.take_length,List.length_append,List.length_cons,List.length_nil,Nat.zero_add,t2] at h hi0 hi1 hr1 ⊢
  refine rd_if (fun hlt=>?_) fun hge=>rd_out ?_
  ·have hkl:k < w.L.length:=by omega
   have w1:IntKind.i64.wrap ((k:Int) + 1) = ((k + 1:Nat):Int):=wrap_succ (by omega)
   have hmu:((w.L.length:Int) - ((k + 1:Nat):Int)).toNat < (m.I - i.I).toNat:=by omega
   have hcj:=hc.2 k hkl
   have hcl:=hc.1
   have hhk:=hh k hkl
   have rgd:ix (ch.L.getD k []) 0 = rg ch.L k:=rfl
   simp only [w1,lx_def,ix_def,rgd]
   rw [show w.L.length - k = (w.L.length - (k + 1)) + 1 by omega] at h
   have go:∀ o,optF w.L ch.L k = o → (G113_3 [.l ch.L,.i ((r.L.length + 1 + 1:Nat):Int),.l w.L,.i (w.L.length:Int),.i ((k + 1:Nat):Int),.l (r.L ++ [[.l [[.i 1,.i ((k + 1:Nat):Int)]]]] ++ [[.l [[.i 2,.i (k:Int),.l o]]]])]).run = some rr:=fun o ho=>by
    refine (need_yes ⟨hc,hw,hh,rfl,by simp only [I_i]; omega,by simp only [I_i,L_l]; omega,by simp only [I_i,L_l,List.length_append,List.length_cons,List.length_nil],by simp only [L_l,List.length_append,List.length_cons,List.length_nil]; omega,by simp only [L_l,I_i,List.length_append,List.length_cons,List.length_nil]; omega⟩).trans ?_
    rw [← h]
    have t3:((k:Int) + 1).toNat = k + 1:=by omega
    simp only [L_l,I_i,rulesF,aftE,cloE,ho,t3,Int.add_assoc,List.append_assoc,List.cons_append,List.nil_append,List.length_append,List.length_cons,Int.natCast_add,Int.natCast_one]
   refine rd_dec (by omega) (rd_need rfl (rd_false rfl (rd_dec (by omega) (rd_dec (by omega) (rd_if (fun hge=>?_) fun hlt2=>?_)))))
   ·have hne:¬ (lx (w.L.getD k []) 7).length = 0:=fun e=>by rw [if_pos e] at hcj; omega
    rw [if_neg hne] at hcj
    refine rd_dec (by omega) (rd_dec (by omega) (rd_need rfl (rd_false rfl (rd_dec (by omega) (rd_again (go _ ?_) hmu)))))
    unfold optF
    rw [if_pos hge]
    rfl
   ·refine rd_need rfl (rd_false rfl (rd_dec (by omega) (rd_again (go _ ?_) hmu)))
    unfold optF
    rw [if_neg (by omega)]
  ·rw [← h,show w.L.length - k = 0 by omega]
   simp only [rulesF,List.append_nil,run_leaf]
   rfl
 ·cases h
theorem ok113 (n:Nat):FnOKW C (n + 1) 113 (mkFW s113 G113):=by
 refine fn_ofW hC (sp:=sp113) (lp:=lp113) (sw:=sw113) trivial trivial (by kernel_rfl) [3] (by kernel_rfl) (by kernel_rfl) (fun k hk L hL=>by simp at hk; subst hk; cases hL; exact ok113_3 n) fun ds rr h=>?_
 unfold G113 at h
 split at h
 ·rename_i c f w ch
  obtain ⟨hp,h⟩:=need_some h
  rw [yes_iff] at hp
  obtain ⟨hp,hc⟩:=hp
  refine (congrArg T.run (t113 c f w ch)).trans ?_
  rw [← h]
  obtain ⟨p1,p2,-⟩:=plan_of hp
  refine go_yes ⟨hc,by omega,fun j hj=>(wayC_of (way_of hp hj).1).2.2.2.2.2.2,rfl,by omega,by omega,rfl,Nat.zero_lt_one,by show ((1:Nat):Int) ≤ 2 * 0 + 1; omega⟩ rfl
 ·cases h
def s71:Sig:=⟨[.agg [.k (.int .i64),.k (.int .i64),.k (.ro [.int .i64,.int .i64,.int .i64,.int .i64,.bool,.int .i64,.int .i64,.ro [.int .i64,.int .i64,.int .i64]])],.k (.ro [.int .i64]),.nils],[(.tup [.nils,.k .bool],[]),(.tup [.sub 0 1,.k .bool],[.row [.int .i64]])]⟩
def l71_4:LSig:=mkLS [2,3,6,7,8,24,25,26] [(86,[(2,.nils),(3,.ptr 0 3 0 0),(6,.ptr 1 1 0 0),(7,.ptr 2 1 0 0),(8,.ptr 3 2 0 0),(24,.sl 4 1),(25,.k (.int .i64)),(26,.k (.int .i64))],[.box [.k (.int .i64),.k (.int .i64),.k (.ro [.int .i64,.int .i64,.int .i64,.int .i64,.bool,.int .i64,.int .i64,.ro [.int .i64,.int .i64,.int .i64]])],.box [.nils],.box [.k .bool],.box [.k (.int .i64),.nils],.row [.alt (KA.cons 239 [.int .i64] (KA.cons 241 [.int .i64] (KA.cons 244 [.int .i64,.opt [.int .i64,.int .i64,.int .i64]] KA.nil)))]]),(86,[(2,.nils),(3,.ptr 0 3 0 0),(6,.ptr 1 1 0 0),(7,.ptr 2 1 0 0),(8,.ptr 3 2 0 0),(24,.sl 4 1),(25,.k (.int .i64)),(26,.k (.int .i64))],[.box [.k (.int .i64),.k (.int .i64),.k (.ro [.int .i64,.int .i64,.int .i64,.int .i64,.bool,.int .i64,.int .i64,.ro [.int .i64,.int .i64,.int .i64]])],.box [.nils],.box [.k .bool],.box [.k (.int .i64),.sl 5 3],.row [.alt (KA.cons 239 [.int .i64] (KA.cons 241 [.int .i64] (KA.cons 244 [.int .i64,.opt [.int .i64,.int .i64,.int .i64]] KA.nil)))],.row [.int .i64,.int .i64,.int .i64]])] [(.pan 204,[6,7],[(86,[(6,.ptr 1 1 0 0),(7,.ptr 2 1 0 0)],[.box [.k (.int .i64),.k (.int .i64),.k (.ro [.int .i64,.int .i64,.int .i64,.int .i64,.bool,.int .i64,.int .i64,.ro [.int .i64,.int .i64,.int .i64]])],.box [.nils],.box [.k .bool]])]),(.exit 0,[2,6,7,8],[(86,[(2,.nils),(6,.ptr 1 1 0 0),(7,.ptr 2 1 0 0),(8,.ptr 3 2 0 0)],[.box [.k (.int .i64),.k (.int .i64),.k (.ro [.int .i64,.int .i64,.int .i64,.int .i64,.bool,.int .i64,.int .i64,.ro [.int .i64,.int .i64,.int .i64]])],.box [.nils],.box [.k .bool],.box [.k (.int .i64),.nils]]),(86,[(2,.nils),(6,.ptr 1 1 0 0),(7,.ptr 2 1 0 0),(8,.ptr 3 2 0 0)],[.box [.k (.int .i64),.k (.int .i64),.k (.ro [.int .i64,.int .i64,.int .i64,.int .i64,.bool,.int .i64,.int .i64,.ro [.int .i64,.int .i64,.int .i64]])],.box [.nils],.box [.k .bool],.box [.k (.int .i64),.sl 4 3],.row [.int .i64,.int .i64,.int .i64]])])]
def l71_9:LSig:=mkLS [2,6,7,8,45,46] [(86,[(2,.nils),(6,.ptr 1 1 0 0),(7,.ptr 2 1 0 0),(8,.ptr 3 2 0 0),(45,.k (.int .i64)),(46,.k (.int .i64))],[.box [.k (.int .i64),.k (.int .i64),.k (.ro [.int .i64,.int .i64,.int .i64,.int .i64,.bool,.int .i64,.int .i64,.ro [.int .i64,.int .i64,.int .i64]])],.box [.nils],.box [.k .bool],.box [.k (.int .i64),.nils]]),(86,[(2,.nils),(6,.ptr 1 1 0 0),(7,.ptr 2 1 0 0),(8,.ptr 3 2 0 0),(45,.k (.int .i64)),(46,.k (.int .i64))],[.box [.k (.int .i64),.k (.int .i64),.k (.ro [.int .i64,.int .i64,.int .i64,.int .i64,.bool,.int .i64,.int .i64,.ro [.int .i64,.int .i64,.int .i64]])],.box [.nils],.box [.k .bool],.box [.k (.int .i64),.sl 4 3],.row [.int .i64,.int .i64,.int .i64]])] [(.exit 2,[2,6,7,8],[(86,[(2,.nils),(6,.ptr 1 1 0 0),(7,.ptr 2 1 0 0),(8,.ptr 3 2 0 0)],[.box [.k (.int .i64),.k (.int .i64),.k (.ro [.int .i64,.int .i64,.int .i64,.int .i64,.bool,.int .i64,.int .i64,.ro [.int .i64,.int .i64,.int .i64]])],.box [.nils],.box [.k .bool],.box [.k (.int .i64),.nils]]),(86,[(2,.nils),(6,.ptr 1 1 0 0),(7,.ptr 2 1 0 0),(8,.ptr 3 2 0 0)],[.box [.k (.int .i64),.k (.int .i64),.k (.ro [.int .i64,.int .i64,.int .i64,.int .i64,.bool,.int .i64,.int .i64,.ro [.int .i64,.int .i64,.int .i64]])],.box [.nils],.box [.k .bool],.box [.k (.int .i64),.sl 4 3],.row [.int .i64,.int .i64,.int .i64]])])]
def s72:SigW:=⟨[.agg [.k (.int .i64),.k (.int .i64),.k (.ro [.int .i64,.int .i64,.int .i64,.int .i64,.bool,.int .i64,.int .i64,.ro [.int .i64,.int .i64,.int .i64]])],.k (.ro [.int .i64]),.sub 0 1],[.row [.int .i64]],[(.agg [.sub 0 1,.sl 1 1,.sl 2 1,.sl 3 1],[.row [.int .i64],.row [.int .i64],.row [.int .i64],.row [.int .i64]])]⟩
def l72_3:LSig:=mkLS [2,3,6,7,15,16,17] [(49,[(2,.sub 0 1),(3,.ptr 1 3 0 0),(6,.ptr 2 4 0 0),(7,.ptr 3 4 0 0),(15,.k (.ro [.int .i64,.int .i64,.int .i64,.int .i64,.bool,.int .i64,.int .i64,.ro [.int .i64,.int .i64,.int .i64]])),(16,.k (.int .i64)),(17,.k (.int .i64))],[.row [.int .i64],.box [.k (.int .i64),.k (.int .i64),.k (.ro [.int .i64,.int .i64,.int .i64,.int .i64,.bool,.int .i64,.int .i64,.ro [.int .i64,.int .i64,.int .i64]])],.box [.nils,.nils,.nils,.nils],.box [.sub 0 1,.nils,.nils,.sl 4 1],.row [.int .i64]]),(49,[(2,.sub 0 1),(3,.ptr 1 3 0 0),(6,.ptr 2 4 0 0),(7,.ptr 3 4 0 0),(15,.k (.ro [.int .i64,.int .i64,.int .i64,.int .i64,.bool,.int .i64,.int .i64,.ro [.int .i64,.int .i64,.int .i64]])),(16,.k (.int .i64)),(17,.k (.int .i64))],[.row [.int .i64],.box [.k (.int .i64),.k (.int .i64),.k (.ro [.int .i64,.int .i64,.int .i64,.int .i64,.bool,.int .i64,.int .i64,.ro [.int .i64,.int .i64,.int .i64]])],.box [.nils,.nils,.nils,.nils],.box [.sub 0 1,.sl 4 1,.sl 5 1,.sl 6 1],.row [.int .i64],.row [.int .i64],.row [.int .i64]])] [(.exit 0,[6,7],[(49,[(6,.ptr 1 4 0 0),(7,.ptr 2 4 0 0)],[.row [.int .i64],.box [.nils,.nils,.nils,.nils],.box [.sub 0 1,.sl 3 1,.sl 4 1,.sl 5 1],.row [.int .i64],.row [.int .i64],.row [.int .i64]])])]
def s115:Sig:=⟨[.k (.ro [.int .i64])],[(.sl 0 1,[.row [.int .i64]]),(.emp 1,[])]⟩
noncomputable section
def rD (l:List (List D)) (i:Nat):List D:=((l.getD i []).getD 0 default).L.getD 0 []
def closO (c:Int) (w:List (List D)) (j:Nat) (o:List (List D)):List (List D):=
 if o.isEmpty then [lk3 0 ((j:Int) + 1) (ix (w.getD j []) 1)] else [lk3 0 ((j:Int) + 1) (ix (w.getD j []) 1 + ix (o.getD 0 []) 0),lk3 ((j:Int) + 1) 0 (busyF c (w.getD j []) - ix (o.getD 0 []) 1)]
def ruleL (c:Int) (w:List (List D)) (x:List D):List (List D):=if ix x 0 = 0 then [lk3 0 1 (ix x 1)] else if ix x 0 = 1 then afterL c w (ix x 1 - 1).toNat else closO c w (ix x 1).toNat (lx x 2)
def ruleK (c:Int) (w:List (List D)) (x:List D):Bool:=decide (ix x 0 = 2 → (lx x 2).isEmpty = false → ix (w.getD (ix x 1).toNat []) 1 + busyF c (w.getD (ix x 1).toNat []) ≤ ix ((lx x 2).getD 0 []) 2)
def ruleV (w:List (List D)) (x:List D):Prop:=ix x 0 = 0 ∨ (ix x 0 = 1 ∧ 1 ≤ ix x 1 ∧ ix x 1 ≤ w.length) ∨ (ix x 0 = 2 ∧ (0 ≤ ix x 1 ∧ ix x 1 < w.length) ∧ winOk (lx x 2))
def linksU (c:Int) (w l:List (List D)):Nat → Nat → List (List D)
 | _,0=>[]
 | i,k + 1=>ruleL c w (rD l i) ++ linksU c w l (i + 1) k
def rulesV (w l:List (List D)):Prop:=l.length ≤ 200 ∧ ∀ j,j < l.length → ruleV w (rD l j)
def rulesK (c:Int) (w l:List (List D)) (j:Nat):Bool:=ruleK c w (rD l j)
def G71_4 (ds:List D):T (Ex × List D):=match ds with
 | [h, n,m,i,c,f,w,ok,nn,l]=>.need (yes (h.I = 0 ∧ planB c.I f.I w.L = true ∧ rulesV w.L l.L ∧ n.I = l.L.length ∧ m.I = l.L.length ∧ i.I = 0 ∧ 0 < l.L.length))
     (.ite (allFrom (rulesK c.I w.L l.L) 0 l.L.length) (.leaf (.exit 0,[.i 1,.i c.I,.i f.I,.l w.L,.b ok.B,.i nn.I,.i (linksU c.I w.L l.L 0 l.L.length).length,.l (linksU c.I w.L l.L 0 l.L.length)])) (.leaf (.pan 204,[.i c.I,.i f.I,.l w.L,.b ok.B])))
 | [h, n,m,i,c,f,w,ok,nn,ll,l,k]=>.need (yes (h.I = 1 ∧ planB c.I f.I w.L = true ∧ rulesV w.L l.L ∧ n.I = l.L.length ∧ m.I = l.L.length ∧ 0 ≤ i.I ∧ i.I ≤ l.L.length ∧ ll.I = k.L.length ∧ k.L.length ≤ 2 * i.I))
     (.ite (allFrom (rulesK c.I w.L l.L) i.I.toNat (l.L.length - i.I.toNat)) (.leaf (.exit 0,[.i 1,.i c.I,.i f.I,.l w.L,.b ok.B,.i nn.I,.i (k.L ++ linksU c.I w.L l.L i.I.toNat (l.L.length - i.I.toNat)).length,.l (k.L ++ linksU c.I w.L l.L i.I.toNat (l.L.length - i.I.toNat))])) (.leaf (.pan 204,[.i c.I,.i f.I,.l w.L,.b ok.B])))
 | _=>.fail
def G71_9 (ds:List D):T (Ex × List D):=match ds with
 | [h, m,i,c,f,w,ok,nn,ll,k]=>.need (yes (h.I = 1 ∧ 0 ≤ i.I ∧ i.I ≤ m.I ∧ m.I ≤ 500 ∧ ll.I = k.L.length ∧ k.L.length + (m.I - i.I) ≤ 5500))
     (.leaf (.exit 2,[.i 1,.i c.I,.i f.I,.l w.L,.b ok.B,.i nn.I,.i (k.L ++ extraF i.I.toNat (m.I - i.I).toNat).length,.l (k.L ++ extraF i.I.toNat (m.I - i.I).toNat)]))
 | _=>.fail
def G71 (ds:List D):T (List D):=match ds with
 | [c, f,w,ch]=>.need (yes (planB c.I f.I w.L = true ∧ chOK w.L ch.L))
     (.ite (duesOk c.I f.I w.L ch.L) (.leaf [.i 1,.i 1,.i (w.L.length + 1:Nat),.b true,.l (pushP true c.I f.I w.L ch.L).1]) (.leaf [.i 0,.b false]))
 | _=>.fail
def rowF (g:Nat → Int):Nat → Nat → List (List D)
 | _,0=>[]
 | i,k + 1=>[.i (g i)] :: rowF g (i + 1) k
def clG (w:List (List D)) (du:Nat → Int) (j:Nat):Int:=du j - ix (w.getD j []) 1
def opG (c:Int) (w:List (List D)) (du:Nat → Int) (j:Nat):Int:=du j + busyF c (w.getD j [])
def duF (du:List (List D)) (j:Nat):Int:=rg du (j + 1)
def duOK (w du:List (List D)):Prop:=du.length = w.length + 2 ∧ ∀ j,0 ≤ rg du j ∧ rg du j ≤ 2000000000
def G72 (ds:List D):T (List D):=match ds with
 | [c, f,w,ch,lo,n,du]=>.need (yes (planB c.I f.I w.L = true ∧ ch.L.length = w.L.length ∧ lo.I = 1 ∧ n.I = w.L.length + 1 ∧ duOK w.L du.L))
     (.leaf [.i 1,.i (w.L.length + 1:Nat),.i w.L.length,.i w.L.length,.i ch.L.length,.l du.L,.l (rowF (clG w.L (duF du.L)) 0 w.L.length),.l (rowF (opG c.I w.L (duF du.L)) 0 w.L.length),.l ch.L])
 | _=>.fail
def G72_3 (ds:List D):T (Ex × List D):=match ds with
 | [h, lo,n,w',m,i,du,c,f,w,lo2,n2,n3,ch]=>.need (yes (h.I = 0 ∧ planB c.I f.I w.L = true ∧ lo.I = 1 ∧ n.I = w.L.length + 1 ∧ w'.L = w.L ∧ m.I = w.L.length ∧ i.I = 0 ∧ duOK w.L du.L ∧ lo2.I = 1 ∧ n2.I = w.L.length + 1 ∧ n3.I = ch.L.length))
     (.leaf (.exit 0,[.l du.L,.i 1,.i (w.L.length + 1:Nat),.i w.L.length,.i w.L.length,.i ch.L.length,.l (rowF (clG w.L (duF du.L)) 0 w.L.length),.l (rowF (opG c.I w.L (duF du.L)) 0 w.L.length),.l ch.L]))
 | [h, lo,n,w',m,i,du,c,f,w,lo2,n2,n4,n5,n3,cl,op,ch]=>.need (yes (h.I = 1 ∧ planB c.I f.I w.L = true ∧ lo.I = 1 ∧ n.I = w.L.length + 1 ∧ w'.L = w.L ∧ m.I = w.L.length ∧ (0 ≤ i.I ∧ i.I ≤ w.L.length) ∧ duOK w.L du.L ∧ lo2.I = 1 ∧ n2.I = w.L.length + 1 ∧ n3.I = ch.L.length ∧
       n4.I = i.I ∧ n5.I = i.I ∧ cl.L = rowF (clG w.L (duF du.L)) 0 i.I.toNat ∧ op.L = rowF (opG c.I w.L (duF du.L)) 0 i.I.toNat))
     (.leaf (.exit 0,[.l du.L,.i 1,.i (w.L.length + 1:Nat),.i w.L.length,.i w.L.length,.i ch.L.length,.l (rowF (clG w.L (duF du.L)) 0 w.L.length),.l (rowF (opG c.I w.L (duF du.L)) 0 w.L.length),.l ch.L]))
 | _=>.fail
end
def s70:SigW:=⟨[.agg [.k (.int .i64),.k (.int .i64),.k (.ro [.int .i64,.int .i64,.int .i64,.int .i64,.bool,.int .i64,.int .i64,.ro [.int .i64,.int .i64,.int .i64]])]],[],[(.fn 111 [] [.ptr 0 3 0 0],[.box [.k (.int .i64),.k (.int .i64),.k (.ro [.int .i64,.int .i64,.int .i64,.int .i64,.bool,.int .i64,.int .i64,.ro [.int .i64,.int .i64,.int .i64]])]])]⟩
def s111:SigI:=⟨[.yl,.ptr 0 3 0 0],[.box [.k (.int .i64),.k (.int .i64),.k (.ro [.int .i64,.int .i64,.int .i64,.int .i64,.bool,.int .i64,.int .i64,.ro [.int .i64,.int .i64,.int .i64]])]]⟩
def y111:YS:=mkY [.sl 0 1] [.row [.int .i64]] true
def l111_2:LSig:=mkLS [0,1,3,12,13,14] [(69,[(0,.yl),(1,.ptr 0 3 0 0),(3,.sl 1 1),(12,.k (.ro [.int .i64,.int .i64,.int .i64,.int .i64,.bool,.int .i64,.int .i64,.ro [.int .i64,.int .i64,.int .i64]])),(13,.k (.int .i64)),(14,.k (.int .i64))],[.box [.k (.int .i64),.k (.int .i64),.k (.ro [.int .i64,.int .i64,.int .i64,.int .i64,.bool,.int .i64,.int .i64,.ro [.int .i64,.int .i64,.int .i64]])],.row [.int .i64]])] [(.exit 0,[0,1,3],[(69,[(0,.yl),(1,.ptr 0 3 0 0),(3,.sl 1 1)],[.box [.k (.int .i64),.k (.int .i64),.k (.ro [.int .i64,.int .i64,.int .i64,.int .i64,.bool,.int .i64,.int .i64,.ro [.int .i64,.int .i64,.int .i64]])],.row [.int .i64]])])]
def l111_7:LSig:=mkLS [0,1,3] [(69,[(0,.yl),(1,.ptr 0 3 0 0),(3,.sl 1 1)],[.box [.k (.int .i64),.k (.int .i64),.k (.ro [.int .i64,.int .i64,.int .i64,.int .i64,.bool,.int .i64,.int .i64,.ro [.int .i64,.int .i64,.int .i64]])],.row [.int .i64]])] [(.ret,[],[(69,[],[.box [.k (.int .i64),.k (.int .i64),.k (.ro [.int .i64,.int .i64,.int .i64,.int .i64,.bool,.int .i64,.int .i64,.ro [.int .i64,.int .i64,.int .i64]])]])])]
def l111_9:LSig:=mkLS [0,1,3,6] [(69,[(0,.yl),(1,.ptr 0 3 0 0),(3,.sl 1 1),(6,.k (.int .i64))],[.box [.k (.int .i64),.k (.int .i64),.k (.ro [.int .i64,.int .i64,.int .i64,.int .i64,.bool,.int .i64,.int .i64,.ro [.int .i64,.int .i64,.int .i64]])],.row [.int .i64]])] [(.exit 4,[0,1,3,6],[(69,[(0,.yl),(1,.ptr 0 3 0 0),(3,.sl 1 1),(6,.k (.int .i64))],[.box [.k (.int .i64),.k (.int .i64),.k (.ro [.int .i64,.int .i64,.int .i64,.int .i64,.bool,.int .i64,.int .i64,.ro [.int .i64,.int .i64,.int .i64]])],.row [.int .i64]])])]
noncomputable section
def lenN (x:D):D:=.i (x.I.toNat:Nat)
def zerR (n:Nat):List (List D):=List.replicate n [.i 0]
def clR (c f:Int) (w ch:List (List D)):List (List D):=rowF (clG w (rg (dueL c f w ch))) 0 w.length
def opR (c f:Int) (w ch:List (List D)):List (List D):=rowF (opG c w (rg (dueL c f w ch))) 0 w.length
def hoursN (w:List (List D)) (j:Nat):Int:=(lx (w.getD j []) 7).length
def zeroC (w:List (List D)) (j:Nat):Int:=if hoursN w j = 0 then -1 else 0
def firstC (w:List (List D)):List (List D):=rowF (zeroC w) 0 w.length
def carryF (w:List (List D)):Nat → List (List D) → List (List D) × Int
 | 0,ch=>(ch,-1)
 | k + 1,ch=>if rg ch k + 1 ≥ hoursN w k then carryF w k (rs ch k (zeroC w k)) else (ch,k)
def stepC (x:List (List D) × Int):List (List D):=rs x.1 x.2.toNat (rg x.1 x.2.toNat + 1)
def allC (w:List (List D)):Nat → List (List D) → List (List D)
 | 0,_=>[]
 | n + 1,ch=>[.i ch.length,.l ch] :: (if (carryF w w.length ch).2 < 0 then [] else allC w n (stepC (carryF w w.length ch)))
def makeF (c f:Int) (w:List (List D)):Nat → List (List D) → Int × List (List D)
 | 0,ch=>(9,ch)
 | n + 1,ch=>if duesOk c f w ch then (0,ch) else if (carryF w w.length ch).2 < 0 then (5,ch) else makeF c f w n (stepC (carryF w w.length ch))
def triesN:Nat:=20000
def foundC (c f:Int) (w:List (List D)):Int × List (List D):=makeF c f w triesN (firstC w)
def prodF (w:List (List D)):Nat → Nat
 | 0=>1
 | k + 1=>prodF w k * (max 1 (hoursN w k)).toNat
def fewC (w:List (List D)):Prop:=prodF w w.length ≤ 1000000000000
def carOK (w ch:List (List D)):Prop:=chOK w ch ∧ canon ch
def G70 (ds:List D):T (List D):=match ds with
 | [c,f,w]=>.leaf [.i c.I,.i f.I,.l w.L]
 | _=>.fail
def G111 (ds:List D):T (List (List D)):=match ds with
 | [c,f,w]=>.need (yes (planB c.I f.I w.L = true ∧ fewC w.L)) (.leaf (allC w.L (prodF w.L w.L.length) (firstC w.L)))
 | _=>.fail
def G111_2 (_:Nat) (ds:List D):T (Ex × List D):=match ds with
 | [g, n,w',m,i,c,f,w,ch]=>.need (yes (planB c.I f.I w.L = true ∧ w'.L = w.L ∧ m.I = w.L.length ∧ n.I = w.L.length ∧ (0 ≤ i.I ∧ i.I ≤ m.I) ∧ ch.L = rowF (zeroC w.L) 0 i.I.toNat ++ zerR (w.L.length - i.I.toNat)))
     (.leaf (.exit 0,[.l g.L,lenN n,.i c.I,.i f.I,.l w.L,.l (firstC w.L)]))
 | _=>.fail
def valC (w ch:List (List D)):Nat → Nat
 | 0=>0
 | k + 1=>valC w ch k * (max 1 (hoursN w k)).toNat + (max 0 (rg ch k)).toNat
def restC (w ch:List (List D)):Nat:=prodF w w.length - valC w ch w.length
def G111_7 (q:Nat) (ds:List D):T (Ex × List D):=match ds with
 | [g, n,c,f,w,ch]=>.need (yes (planB c.I f.I w.L = true ∧ fewC w.L ∧ n.I = w.L.length ∧ carOK w.L ch.L ∧ g.L.length ≤ q))
     (.leaf (.ret,[.l (g.L ++ (allC w.L (restC w.L ch.L) ch.L).take (q + 1 - g.L.length)),.i c.I,.i f.I,.l w.L]))
 | _=>.fail
def G111_9 (_:Nat) (ds:List D):T (Ex × List D):=match ds with
 | [g, n,j,c,f,w,ch]=>.need (yes (planB c.I f.I w.L = true ∧ n.I = w.L.length ∧ carOK w.L ch.L ∧ -1 ≤ j.I ∧ j.I < w.L.length))
     (.leaf (.exit 4,[.l g.L,lenN n,.i (carryF w.L (j.I + 1).toNat ch.L).2,.i c.I,.i f.I,.l w.L,.l (carryF w.L (j.I + 1).toNat ch.L).1]))
 | _=>.fail
end
def s26:Sig:=⟨[.agg [.k (.int .i64),.k (.int .i64),.k (.ro [.int .i64,.int .i64,.int .i64,.int .i64,.bool,.int .i64,.int .i64,.ro [.int .i64,.int .i64,.int .i64]])]],[(.tup [.agg [.nils,.nils,.nils,.nils],.k (.int .i64)],[]),(.tup [.agg [.sub 0 1,.sl 1 1,.sl 2 1,.sl 3 1],.k (.int .i64)],[.row [.int .i64],.row [.int .i64],.row [.int .i64],.row [.int .i64]])]⟩
def h26_7:List Shp:=[mkShp (35,[(1,.ptr 0 3 0 0),(2,.ptr 1 4 0 0),(3,.ptr 2 1 0 0),(5,.ptr 3 1 0 0),(16,.fn 111 [] [.any])],[.box [.k (.int .i64),.k (.int .i64),.k (.ro [.int .i64,.int .i64,.int .i64,.int .i64,.bool,.int .i64,.int .i64,.ro [.int .i64,.int .i64,.int .i64]])],.box [.nils,.nils,.nils,.nils],.box [.k (.int .i64)],.box [.k (.int .i64)]]),mkShp (35,[(1,.ptr 0 3 0 0),(2,.ptr 1 4 0 0),(3,.ptr 2 1 0 0),(5,.ptr 3 1 0 0),(16,.fn 111 [] [.any])],[.box [.k (.int .i64),.k (.int .i64),.k (.ro [.int .i64,.int .i64,.int .i64,.int .i64,.bool,.int .i64,.int .i64,.ro [.int .i64,.int .i64,.int .i64]])],.box [.sub 4 1,.sl 5 1,.sl 6 1,.sl 7 1],.box [.k (.int .i64)],.box [.k (.int .i64)],.row [.int .i64],.row [.int .i64],.row [.int .i64],.row [.int .i64]])]
def s24:Sig:=⟨[.agg [.k (.int .i64),.k (.int .i64),.k (.ro [.int .i64,.int .i64,.int .i64,.int .i64,.bool,.int .i64,.int .i64,.ro [.int .i64,.int .i64,.int .i64]])]],[(.k .bool,[])]⟩
def l24_4:LSig:=mkLS [1,3] [(25,[(1,.ptr 0 3 0 0),(3,.k (.int .i64))],[.box [.k (.int .i64),.k (.int .i64),.k (.ro [.int .i64,.int .i64,.int .i64,.int .i64,.bool,.int .i64,.int .i64,.ro [.int .i64,.int .i64,.int .i64]])]])] [(.ret,[2],[(25,[(2,.k .bool)],[])]),(.exit 0,[1],[(25,[(1,.ptr 0 3 0 0)],[.box [.k (.int .i64),.k (.int .i64),.k (.ro [.int .i64,.int .i64,.int .i64,.int .i64,.bool,.int .i64,.int .i64,.ro [.int .i64,.int .i64,.int .i64]])]])])]
noncomputable section
def legP (a b c:Int):Bool:=within a 0 b && decide (b ≤ 1000000) && within c 0 1000000
def legOk (c:List D):Bool:=legP (ix c 0) (ix c 1) (ix c 2)
def legAt (l:List (List D)) (j:Nat):Bool:=legOk (l.getD j [])
def tankOk (t r s:Int) (l:List (List D)):Bool:=within t 1 1000000 && within r 0 t && within s 0 t && decide (l.length ≤ 50) && allFrom (legAt l) 0 l.length
def safeFrom (t r:Int) (l am:List (List D)):Nat → Nat → Int → Int → Bool
 | _,0,_,_=>true
 | i, k + 1,lo,hi=>if hi + ix (am.getD i []) 0 > t then false else if lo + ix (am.getD i []) 0 - ix (l.getD i []) 1 < r then false
   else safeFrom t r l am (i + 1) k (lo + ix (am.getD i []) 0 - ix (l.getD i []) 1) (hi + ix (am.getD i []) 0 - ix (l.getD i []) 0)
def G13 (ds:List D):T (List D):=match ds with
 | [t,r,s,l]=>.leaf [.b (tankOk t.I r.I s.I l.L)]
 | _=>.fail
end
noncomputable section
def mkI (xs:List Int):List (List D):=xs.map fun n=>[.i n]
def tabI (n:Nat) (f:Nat → Int):List (List D):=mkI ((List.range n).map f)
def mostOf (l:List (List D)) (j:Nat):Int:=ix (l.getD j []) 1
def fillOf (l:List (List D)) (j:Nat):Int:=ix (l.getD j []) 2
def needAt (l:List (List D)) (r s:Int):Nat → Int
 | 0=>r - s
 | j + 1=>needAt l r s j + mostOf l j
def upAt (l:List (List D)) (r s:Int):Nat → Int
 | 0=>0
 | j + 1=>max (upAt l r s j) (needAt l r s (j + 1))
def downAt (l:List (List D)) (r s:Int):Nat → Nat → Int
 | 0,j=>upAt l r s (j + 1)
 | k + 1,j=>max (upAt l r s (j + 1)) (downAt l r s k (j + 1) - fillOf l (j + 1))
def sumAt (l:List (List D)) (r s:Int) (j:Nat):Int:=downAt l r s (l.length - 1 - j) j
def outAt (l:List (List D)) (r s:Int):Nat → Int
 | 0=>sumAt l r s 0
 | j + 1=>sumAt l r s (j + 1) - sumAt l r s j
def outs (l:List (List D)) (r s:Int):List (List D):=tabI l.length (outAt l r s)
def outOk (l:List (List D)) (r s:Int) (j:Nat):Bool:=decide (outAt l r s j ≤ fillOf l j)
def fuelOk (t r s:Int) (l:List (List D)):Bool:=allFrom (outOk l r s) 0 l.length && safeFrom t r l (outs l r s) 0 l.length s s
def tankP (t r s:Int) (l:List (List D)):Prop:=tankOk t r s l = true
end
noncomputable section
def chY (x:List D):List (List D):=lx x 1
def pickF (c f:Int) (w:List (List D)):List (List D) → Int → Int × List (List D) × Int
 | [],t=>(5,[],t)
 | x :: L,t=>if t = 20000 then (9,[],t) else if duesOk c f w (chY x) then (0,chY x,t + 1) else pickF c f w L (t + 1)
def yOK (w:List (List D)) (x:List D):Prop:=x = [.i w.length,.l (chY x)] ∧ carOK w (chY x)
def rowP (c f:Int) (w ch:List (List D)):List (List D):=(pushP true c f w ch).1
def G26_7 (L:List (List D)) (ds:List D):T (Ex × List D):=match ds with
 | [h, c, f,w,e,t]=>.need (yes (h.I = 0 ∧ planB c.I f.I w.L = true ∧ (∀ x ∈ L,yOK w.L x) ∧ 0 ≤ t.I ∧ t.I ≤ 20000))
     (.ite (decide ((pickF c.I f.I w.L L t.I).1 = 0))
      (.leaf (.ret,[.i 1,.i c.I,.i f.I,.l w.L,.i 1,.i (w.L.length + 1:Nat),.i w.L.length,.i w.L.length,.i w.L.length,.i 0,.i (pickF c.I f.I w.L L t.I).2.2,.l (rowP c.I f.I w.L (pickF c.I f.I w.L L t.I).2.1),
       .l (clR c.I f.I w.L (pickF c.I f.I w.L L t.I).2.1),.l (opR c.I f.I w.L (pickF c.I f.I w.L L t.I).2.1),.l (pickF c.I f.I w.L L t.I).2.1]))
      (.ite (decide ((pickF c.I f.I w.L L t.I).1 = 9)) (.leaf (.ret,[.i 0,.i c.I,.i f.I,.l w.L,.i 9,.i (pickF c.I f.I w.L L t.I).2.2])) (.leaf (.normal,[.i 0,.i c.I,.i f.I,.l w.L,.i e.I,.i (pickF c.I f.I w.L L t.I).2.2]))))
 | _=>.fail
def G26 (ds:List D):T (List D):=match ds with
 | [c, f,w]=>.ite (planB c.I f.I w.L)
     (.need (yes (fewC w.L)) (.ite (decide ((foundC c.I f.I w.L).1 = 0))
      (.leaf [.i 1,.i 1,.i (w.L.length + 1:Nat),.i w.L.length,.i w.L.length,.i w.L.length,.i 0,.l (rowP c.I f.I w.L (foundC c.I f.I w.L).2),.l (clR c.I f.I w.L (foundC c.I f.I w.L).2),.l (opR c.I f.I w.L (foundC c.I f.I w.L).2),.l (foundC c.I f.I w.L).2])
      (.leaf [.i 0,.i (foundC c.I f.I w.L).1])))
     (.leaf [.i 0,.i 2])
 | _=>.fail
end
noncomputable section
def winS (w:List (List D)) (j:Nat):Bool:=decide ((lx (w.getD j []) 7).length ≤ 3)
def planS (c f:Int) (w:List (List D)):Bool:=decide (w.length ≤ 6) && allFrom (winS w) 0 w.length && planB c f w
def G24 (ds:List D):T (List D):=match ds with
 | [c,f,w]=>.leaf [.b (planS c.I f.I w.L)]
 | _=>.fail
def G24_4 (ds:List D):T (Ex × List D):=match ds with
 | [i,c,f,w]=>.need (yes (0 ≤ i.I ∧ i.I ≤ w.L.length ∧ w.L.length ≤ 6)) (.ite (allFrom (winS w.L) i.I.toNat (w.L.length - i.I.toNat)) (.leaf (.exit 0,[.i c.I,.i f.I,.l w.L])) (.leaf (.ret,[.b false])))
 | _=>.fail
end
def s36:SigW:=⟨[.agg [.k (.int .i64),.k (.int .i64),.k (.ro [.int .i64,.int .i64,.int .i64,.int .i64,.bool,.int .i64,.int .i64,.ro [.int .i64,.int .i64,.int .i64]])],.agg [.sub 0 1,.sl 1 1,.sl 2 1,.sl 3 1],.k (.ro [.int .i64]),.k (.ro [.int .i64])],[.row [.int .i64],.row [.int .i64],.row [.int .i64],.row [.int .i64]],[(.agg [.k (.int .i64),.sl 4 4],[.row [.int .i64],.row [.int .i64],.row [.int .i64],.row [.int .i64],.row [.int .i64,.int .i64,.int .i64,.ro [.int .i64,.int .i64]]])]⟩
def l36_3:LSig:=mkLS [2,3,4,5,8,9,10] [(79,[(2,.k (.ro [.int .i64])),(3,.k (.ro [.int .i64])),(4,.ptr 4 3 0 0),(5,.ptr 5 4 0 0),(8,.ptr 6 2 0 0),(9,.ptr 7 2 0 0),(10,.k (.int .i64))],[.row [.int .i64],.row [.int .i64],.row [.int .i64],.row [.int .i64],.box [.k (.int .i64),.k (.int .i64),.k (.ro [.int .i64,.int .i64,.int .i64,.int .i64,.bool,.int .i64,.int .i64,.ro [.int .i64,.int .i64,.int .i64]])],.box [.sub 0 1,.sl 1 1,.sl 2 1,.sl 3 1],.box [.k (.int .i64),.nils],.box [.k (.int .i64),.nils]]),(79,[(2,.k (.ro [.int .i64])),(3,.k (.ro [.int .i64])),(4,.ptr 4 3 0 0),(5,.ptr 5 4 0 0),(8,.ptr 6 2 0 0),(9,.ptr 7 2 0 0),(10,.k (.int .i64))],[.row [.int .i64],.row [.int .i64],.row [.int .i64],.row [.int .i64],.box [.k (.int .i64),.k (.int .i64),.k (.ro [.int .i64,.int .i64,.int .i64,.int .i64,.bool,.int .i64,.int .i64,.ro [.int .i64,.int .i64,.int .i64]])],.box [.sub 0 1,.sl 1 1,.sl 2 1,.sl 3 1],.box [.k (.int .i64),.nils],.box [.k (.int .i64),.sl 8 4],.row [.int .i64,.int .i64,.int .i64,.ro [.int .i64,.int .i64]]])] [(.exit 0,[8,9],[(79,[(8,.ptr 4 2 0 0),(9,.ptr 5 2 0 0)],[.row [.int .i64],.row [.int .i64],.row [.int .i64],.row [.int .i64],.box [.k (.int .i64),.nils],.box [.k (.int .i64),.nils]]),(79,[(8,.ptr 4 2 0 0),(9,.ptr 5 2 0 0)],[.row [.int .i64],.row [.int .i64],.row [.int .i64],.row [.int .i64],.box [.k (.int .i64),.nils],.box [.k (.int .i64),.sl 6 4],.row [.int .i64,.int .i64,.int .i64,.ro [.int .i64,.int .i64]]])])]
noncomputable section
def bnd (a b:Int):Bool:=decide (1 ≤ a) && (decide (a ≤ b) && decide (b ≤ 700))
def rowSp (l:List (List D)) (k:Nat):Bool:=bnd (ix (l.getD k []) 1) (ix (l.getD k []) 2) && (decide (ix (l.getD k []) 0 ≤ 2000) && riseAt l k)
def pctAt (l:List (List D)) (k:Nat):Bool:=within (ix (l.getD k []) 0) 1 100
def headSp (lo hi:Int) (r u:List (List D)):Bool:=bnd lo hi && (within r.length 1 30 && (decide (u.length = 9) && decide (ix (r.getD 0 []) 0 = 5)))
def speedsOk (lo hi:Int) (r u:List (List D)):Bool:=headSp lo hi r u && (allFrom (rowSp r) 0 r.length && allFrom (pctAt u) 0 9)
def spP (lo hi:Int) (r u:List (List D)):Prop:=speedsOk lo hi r u = true
def rowI (r:List (List D)) (c:Int):Nat → Nat
 | 0=>0
 | k + 1=>if ix (r.getD (k + 1) []) 0 > c then rowI r c k else k + 1
def rowLo (lo:Int) (r:List (List D)) (b c:Int):Int:=if b = 0 then lo else ix (r.getD (rowI r c (r.length - 1)) []) 1
def rowHi (hi:Int) (r:List (List D)) (b c:Int):Int:=if b = 0 then hi else ix (r.getD (rowI r c (r.length - 1)) []) 2
def pctOf (u:List (List D)) (e:Int):Int:=ix (u.getD (e - 1).toNat []) 0
def quickV (hi:Int) (r u:List (List D)) (b c e:Int):Int:=(10000000:Int).tdiv ((rowHi hi r b c * pctOf u e + 99).tdiv 100)
def slowL (lo:Int) (r u:List (List D)) (b c e:Int):Int:=maxI 1 ((rowLo lo r b c * pctOf u e).tdiv 100)
def slowV (lo:Int) (r u:List (List D)) (b c e:Int):Int:=(10000000 + slowL lo r u b c e - 1).tdiv (slowL lo r u b c e)
def G9 (ds:List D):T (List D):=match ds with
 | [lo,hi,r,u]=>.leaf [.b (speedsOk lo.I hi.I r.L u.L)]
 | _=>.fail
def G11:List D → T (List D):=G19
def G8 (ds:List D):T (List D):=match ds with
 | [p,c,j]=>.leaf [.b (roadOk p.L c.L j.L && decide (lenR p.L ≤ 120))]
 | _=>.fail
end
noncomputable section
def cellT (hi:Int) (r u:List (List D)) (lo:Int) (r' u':List (List D)) (x:List D):List D:=[.i (quickV hi r u (ix x 1) (ix x 2) (ix x 4)),.i (slowV lo r' u' (ix x 1) (ix x 2) (ix x 4))]
def metsT (hi:Int) (r u:List (List D)) (lo:Int) (r' u':List (List D)) (p:List (List D)):Nat → Nat → List (List D)
 | _,0=>[]
 | i,k + 1=>List.replicate (ix (p.getD i []) 0).toNat (cellT hi r u lo r' u' (p.getD i [])) ++ metsT hi r u lo r' u' p (i + 1) k
def mets (lo hi:Int) (r u p:List (List D)):List (List D):=metsT hi r u lo r u p 0 p.length
def cumL:Int → Int → List (List D) → List (List D)
 | _,_,[]=>[]
 | a,d,x :: L=>[.i (a + ix x 0),.i (d + ix x 1)] :: cumL (a + ix x 0) (d + ix x 1) L
def sumsM (lo hi:Int) (r u p:List (List D)):List (List D):=[.i 0,.i 0] :: cumL 0 0 (mets lo hi r u p)
def sumAtM (k:Nat) (lo hi:Int) (r u p:List (List D)) (x:Int):Int:=ix ((sumsM lo hi r u p).getD x.toNat []) k
def betwB (lo hi:Int) (r u p c j:List (List D)) (a b:Int):Bool:=roadOk p c j && speedsOk lo hi r u && within a 0 (lenR p) && within b 0 (lenR p) && decide (a ≤ b)
end
noncomputable section
def G10 (ds:List D):T (List D):=match ds with
 | []=>.leaf [.b true]
 | _=>.fail
def betwV (k:Nat) (lo hi:Int) (r u p:List (List D)) (a b:Int):Int:=sumAtM k lo hi r u p b - sumAtM k lo hi r u p a
def G12w (ds:List D):T (List D):=match ds with
 | [p,c,j,lo,hi,r,u,a,b]=>.need (yes (betwB lo.I hi.I r.L u.L p.L c.L j.L a.I b.I = true)) (.leaf [.i (betwV 0 lo.I hi.I r.L u.L p.L a.I b.I),.i (betwV 1 lo.I hi.I r.L u.L p.L a.I b.I),.i 0])
 | _=>.fail
def G14w (ds:List D):T (List D):=match ds with
 | [t,r,s,l]=>.need (yes (tankP t.I r.I s.I l.L)) (.ite (fuelOk t.I r.I s.I l.L) (.leaf [.i 1,.i l.L.length,.i 0,.l (outs l.L r.I s.I)]) (.leaf [.i 0,.i 5]))
 | _=>.fail
def rgI (t:List (List D)) (j:Nat):Int:=ix (t.getD j []) 0
def plF (cuts:List (List D)) (i:Nat):List (List D):=[.i 0] :: (List.range i).map fun j=>[.i (rgI cuts j)]
def cutAt (cuts:List (List D)) (n:Int) (j:Nat):Bool:=decide (rgI cuts j > rgI (plF cuts j) j) && decide (rgI cuts j < n)
def paceP (lo hi:Int) (r u p c j:List (List D)):Prop:=(roadP p c j ∧ spP lo hi r u) ∧ lenR p ≤ 120
def plOk (n:Int) (o:List (List D)):Prop:=o.length ≤ 10 ∧ ∀ k,k + 1 < o.length → 0 ≤ rgI o k ∧ rgI o k ≤ rgI o (k + 1) ∧ rgI o (k + 1) ≤ n
def legI (lo hi:Int) (r u p fills o:List (List D)) (k:Nat):List D:=
 [.i ((betwV 0 lo hi r u p (rgI o k) (rgI o (k + 1))).tdiv 100000),.i ((betwV 1 lo hi r u p (rgI o k) (rgI o (k + 1))).tdiv 100000 + 1),.i (if k < fills.length then rgI fills k else 0)]
def legsF (lo hi:Int) (r u p fills o:List (List D)) (n:Nat):List (List D):=(List.range n).map (legI lo hi r u p fills o)
def G3_5 (ds:List D):T (Ex × List D):=match ds with
 | [cuts,sh,fi,ta,re,s,i,p,c,j,lo,hi,r,u,o]=>.need (yes (manyP p.L ∧ lenR p.L ≤ 120 ∧ cuts.L.length ≤ 7 ∧ 0 ≤ i.I ∧ i.I ≤ cuts.L.length ∧ s.I = i.I + 1 ∧ o.L = plF cuts.L i.I.toNat))
     (.ite (allFrom (cutAt cuts.L (lenR p.L)) i.I.toNat (cuts.L.length - i.I.toNat)) (.leaf (.exit 0,[.l sh.L,.l fi.L,.i ta.I,.i re.I,.i (cuts.L.length + 1:Nat),.l p.L,.l c.L,.l j.L,.i lo.I,.i hi.I,.l r.L,.l u.L,.l (plF cuts.L cuts.L.length)])) (.leaf (.ret,[.b true])))
 | _=>.fail
def G3_13 (ds:List D):T (Ex × List D):=match ds with
 | [z, sh,fi,ta,re,s,i,p,c,j,lo,hi,r,u,o]=>.need (yes (z.I = 0 ∧ paceP lo.I hi.I r.L u.L p.L c.L j.L ∧ plOk (lenR p.L) o.L ∧ s.I = o.L.length ∧ i.I = 0 ∧ 2 ≤ o.L.length))
     (.leaf (.exit 2,[.i 1,.l sh.L,.i ta.I,.i re.I,.i o.L.length,.i (o.L.length - 1:Nat),.l p.L,.l c.L,.l j.L,.i lo.I,.i hi.I,.l r.L,.l u.L,.l o.L,.l (legsF lo.I hi.I r.L u.L p.L fi.L o.L (o.L.length - 1))]))
 | [z, sh,fi,ta,re,s,t,i,p,c,j,lo,hi,r,u,o,w]=>.need (yes (z.I = 1 ∧ paceP lo.I hi.I r.L u.L p.L c.L j.L ∧ plOk (lenR p.L) o.L ∧ s.I = o.L.length ∧ 1 ≤ i.I ∧ i.I ≤ o.L.length - 1 ∧ t.I = i.I ∧ w.L = legsF lo.I hi.I r.L u.L p.L fi.L o.L i.I.toNat))
     (.leaf (.exit 2,[.i 1,.l sh.L,.i ta.I,.i re.I,.i o.L.length,.i (o.L.length - 1:Nat),.l p.L,.l c.L,.l j.L,.i lo.I,.i hi.I,.l r.L,.l u.L,.l o.L,.l (legsF lo.I hi.I r.L u.L p.L fi.L o.L (o.L.length - 1))]))
 | _=>.fail
def levP (t r:Int) (l am:List (List D)) (i:Nat) (x:Int):Prop:=∃ lo hi,(lo ≤ x ∧ x ≤ hi) ∧ (0 ≤ lo ∧ hi ≤ t) ∧ safeFrom t r l am i (l.length - i) lo hi = true
def amP (l am:List (List D)):Prop:=am.length = l.length ∧ ∀ k,k < l.length → 0 ≤ rgI am k ∧ rgI am k ≤ 1000000
def G3_31 (ds:List D):T (Ex × List D):=match ds with
 | [_, ta,re,s,t,v,lev,i,p,c,j,lo,hi,r,u,o,w,l]=>.need (yes ((paceP lo.I hi.I r.L u.L p.L c.L j.L ∧ plOk (lenR p.L) o.L) ∧ (s.I = o.L.length ∧ t.I = w.L.length ∧ v.I = l.L.length) ∧ (∃ fi,w.L = legsF lo.I hi.I r.L u.L p.L fi o.L w.L.length) ∧ w.L.length + 1 = o.L.length ∧ amP w.L l.L ∧
       (0 ≤ re.I ∧ ta.I ≤ 1000000) ∧ 0 ≤ i.I ∧ i.I ≤ w.L.length ∧ levP ta.I re.I w.L l.L i.I.toNat lev.I))
     (.leaf (.exit 4,[]))
 | _=>.fail
end
noncomputable section
def G2026 (ds:List D):T (List D):=match ds with
 | [c, f, w]=>.need (yes (planB c.I f.I w.L = true ∧ fewC w.L)) (.ite (decide ((foundC c.I f.I w.L).1 = 0))
       (.leaf [.i 1,.i 1,.i (w.L.length + 1:Nat),.i w.L.length,.i w.L.length,.i w.L.length,.i 0,.l (rowP c.I f.I w.L (foundC c.I f.I w.L).2),.l (clR c.I f.I w.L (foundC c.I f.I w.L).2),.l (opR c.I f.I w.L (foundC c.I f.I w.L).2),.l (foundC c.I f.I w.L).2])
       (.ite (decide ((foundC c.I f.I w.L).1 = 5)) (.leaf [.i 0,.i 5]) (.leaf [.i 0,.i 9])))
 | _=>.fail
def G30x (ds:List D):T (List D):=match ds with
 | [c,f,w,du,_,_,_,car,k]=>.need (yes (du.L.length < big ∧ dueB c.I f.I w.L du.L car.I k.I = true)) (.leaf [.i (dueF w.L du.L car.I k.I.toNat),.i (dueF w.L du.L car.I k.I.toNat + ix (w.L.getD k.I.toNat []) 0),.i 0])
 | _=>.fail
def fndT (c f:Int) (w du cl op ch:List (List D)) (lo n n1 n2 n3:Int):Prop:=planB c f w = true ∧ carOK w ch ∧ duesOk c f w ch = true ∧ du = rowP c f w ch ∧ cl = clR c f w ch ∧ op = opR c f w ch ∧ lo = 1 ∧ n = w.length + 1 ∧ n1 = w.length ∧ n2 = w.length ∧ n3 = w.length
end
noncomputable section
def roadN (se cl op:List (List D)) (j:Nat):List D:=[.i j,.i (j + 1:Nat),.i (rgI se j),.l [[.i (60 * rgI cl j),.i (60 * rgI op j)]]]
def detN (de:List (List D)) (j:Nat):List (List D):=if rgI de j > 0 then [[.i j,.i (j + 1:Nat),.i (rgI de j),.l []],[.i (j + 1:Nat),.i j,.i (rgI de j),.l []]] else []
def cutN (se de cl op:List (List D)):Nat → List (List D)
 | 0=>[]
 | k + 1=>cutN se de cl op k ++ (roadN se cl op k :: detN de k)
def cutP (w se de cl op:List (List D)):Prop:=(1 ≤ w.length ∧ w.length ≤ 6) ∧ se.length = w.length ∧ de.length = w.length ∧ cl.length = w.length ∧ op.length = w.length ∧
 ∀ k,k < w.length → (0 ≤ rgI cl k ∧ rgI cl k < rgI op k ∧ 60 * rgI op k ≤ 100000) ∧ (1 ≤ rgI se k ∧ rgI se k ≤ 10000) ∧ 0 ≤ rgI de k ∧ rgI de k ≤ 10000
def G36 (ds:List D):T (List D):=match ds with
 | [_, _,w,_,_,n1,n2,_,se,de,du,cl,op,ch]=>.need (yes (cutP w.L se.L de.L cl.L op.L ∧ n1.I = w.L.length ∧ n2.I = w.L.length))
     (.leaf [.i (w.L.length + 1:Nat),.i (cutN se.L de.L cl.L op.L w.L.length).length,.l du.L,.l cl.L,.l op.L,.l ch.L,.l (cutN se.L de.L cl.L op.L w.L.length)])
 | _=>.fail
def G36_3 (ds:List D):T (Ex × List D):=match ds with
 | [z, se,de,i,du,cl,op,ch,_,_,w,_,_,n1,n2,_,n8,n9]=>.need (yes (z.I = 0 ∧ cutP w.L se.L de.L cl.L op.L ∧ n1.I = w.L.length ∧ n2.I = w.L.length ∧ i.I = 0))
     (.leaf (.exit 0,[.i 1,.l du.L,.l cl.L,.l op.L,.l ch.L,.i n8.I,.i n9.I,.i (cutN se.L de.L cl.L op.L w.L.length).length,.l (cutN se.L de.L cl.L op.L w.L.length)]))
 | [z, se,de,i,du,cl,op,ch,_,_,w,_,_,n1,n2,_,n8,n9,s,o]=>.need (yes (z.I = 1 ∧ cutP w.L se.L de.L cl.L op.L ∧ n1.I = w.L.length ∧ n2.I = w.L.length ∧ 0 ≤ i.I ∧ i.I ≤ w.L.length ∧ s.I = (cutN se.L de.L cl.L op.L i.I.toNat).length ∧ o.L = cutN se.L de.L cl.L op.L i.I.toNat))
     (.leaf (.exit 0,[.i 1,.l du.L,.l cl.L,.l op.L,.l ch.L,.i n8.I,.i n9.I,.i (cutN se.L de.L cl.L op.L w.L.length).length,.l (cutN se.L de.L cl.L op.L w.L.length)]))
 | _=>.fail
end
def s7:Sig:=⟨[.agg [.k (.int .i64),.k (.int .i64),.k (.ro [.int .i64,.int .i64,.int .i64,.int .i64,.bool,.int .i64,.int .i64,.ro [.int .i64,.int .i64,.int .i64]])],.k (.ro [.int .i64]),.k (.ro [.int .i64]),.k (.int .i64),.k (.int .i64),.k (.int .i64)],[(.k .bool,[])]⟩
def l7_4:LSig:=mkLS [1,2,3,4,5,6,13] [(334,[(1,.k (.ro [.int .i64])),(2,.k (.ro [.int .i64])),(3,.k (.int .i64)),(4,.k (.int .i64)),(5,.k (.int .i64)),(6,.ptr 0 3 0 0),(13,.k (.int .i64))],[.box [.k (.int .i64),.k (.int .i64),.k (.ro [.int .i64,.int .i64,.int .i64,.int .i64,.bool,.int .i64,.int .i64,.ro [.int .i64,.int .i64,.int .i64]])]])] [(.ret,[12],[(334,[(12,.k .bool)],[])]),(.exit 0,[1,2,3,4,5,6],[(334,[(1,.k (.ro [.int .i64])),(2,.k (.ro [.int .i64])),(3,.k (.int .i64)),(4,.k (.int .i64)),(5,.k (.int .i64)),(6,.ptr 0 3 0 0)],[.box [.k (.int .i64),.k (.int .i64),.k (.ro [.int .i64,.int .i64,.int .i64,.int .i64,.bool,.int .i64,.int .i64,.ro [.int .i64,.int .i64,.int .i64]])]])])]
def l7_14:LSig:=mkLS [1,2,3,4,5,6,14,16] [(334,[(1,.k (.ro [.int .i64])),(2,.k (.ro [.int .i64])),(3,.k (.int .i64)),(4,.k (.int .i64)),(5,.k (.int .i64)),(6,.ptr 0 3 0 0),(14,.ptr 1 4 0 0),(16,.k (.int .i64))],[.box [.k (.int .i64),.k (.int .i64),.k (.ro [.int .i64,.int .i64,.int .i64,.int .i64,.bool,.int .i64,.int .i64,.ro [.int .i64,.int .i64,.int .i64]])],.box [.sub 2 1,.sl 3 1,.sl 4 1,.sl 5 1],.row [.int .i64],.row [.int .i64],.row [.int .i64],.row [.int .i64]])] [(.ret,[12],[(334,[(12,.k .bool)],[])]),(.exit 2,[1,2,3,4,5,6,14],[(334,[(1,.k (.ro [.int .i64])),(2,.k (.ro [.int .i64])),(3,.k (.int .i64)),(4,.k (.int .i64)),(5,.k (.int .i64)),(6,.ptr 0 3 0 0),(14,.ptr 1 4 0 0)],[.box [.k (.int .i64),.k (.int .i64),.k (.ro [.int .i64,.int .i64,.int .i64,.int .i64,.bool,.int .i64,.int .i64,.ro [.int .i64,.int .i64,.int .i64]])],.box [.sub 2 1,.sl 3 1,.sl 4 1,.sl 5 1],.row [.int .i64],.row [.int .i64],.row [.int .i64],.row [.int .i64]])])]
def l7_28:LSig:=mkLS [2,3,4,5,6,14,17,18,19,23] [(334,[(2,.k (.ro [.int .i64])),(3,.k (.int .i64)),(4,.k (.int .i64)),(5,.k (.int .i64)),(6,.ptr 0 3 0 0),(14,.ptr 1 4 0 0),(17,.ptr 2 2 0 0),(18,.k (.ro [.int .i64,.int .i64])),(19,.k (.int .i64)),(23,.k (.int .i64))],[.box [.k (.int .i64),.k (.int .i64),.k (.ro [.int .i64,.int .i64,.int .i64,.int .i64,.bool,.int .i64,.int .i64,.ro [.int .i64,.int .i64,.int .i64]])],.box [.sub 3 1,.sl 4 1,.sl 5 1,.sl 6 1],.box [.k (.int .i64),.sl 7 4],.row [.int .i64],.row [.int .i64],.row [.int .i64],.row [.int .i64],.row [.int .i64,.int .i64,.int .i64,.ro [.int .i64,.int .i64]]])] [(.ret,[12],[(334,[(12,.k .bool)],[])]),(.exit 4,[2,3,4,5,19],[(334,[(2,.k (.ro [.int .i64])),(3,.k (.int .i64)),(4,.k (.int .i64)),(5,.k (.int .i64)),(19,.k (.int .i64))],[])])]
def l7_35:LSig:=mkLS [2,3,4,5,6,14,17,18,19,23,24,25] [(334,[(2,.k (.ro [.int .i64])),(3,.k (.int .i64)),(4,.k (.int .i64)),(5,.k (.int .i64)),(6,.ptr 0 3 0 0),(14,.ptr 1 4 0 0),(17,.ptr 2 2 0 0),(18,.k (.ro [.int .i64,.int .i64])),(19,.k (.int .i64)),(23,.k (.int .i64)),(24,.ptr 3 4 0 0),(25,.k (.int .i64))],[.box [.k (.int .i64),.k (.int .i64),.k (.ro [.int .i64,.int .i64,.int .i64,.int .i64,.bool,.int .i64,.int .i64,.ro [.int .i64,.int .i64,.int .i64]])],.box [.sub 4 1,.sl 5 1,.sl 6 1,.sl 7 1],.box [.k (.int .i64),.sl 8 4],.box [.k (.int .i64),.k (.int .i64),.k (.int .i64),.k (.ro [.int .i64,.int .i64])],.row [.int .i64],.row [.int .i64],.row [.int .i64],.row [.int .i64],.row [.int .i64,.int .i64,.int .i64,.ro [.int .i64,.int .i64]]])] [(.ret,[12],[(334,[(12,.k .bool)],[])]),(.exit 6,[2,3,4,5,6,14,17,18,19,23],[(334,[(2,.k (.ro [.int .i64])),(3,.k (.int .i64)),(4,.k (.int .i64)),(5,.k (.int .i64)),(6,.ptr 0 3 0 0),(14,.ptr 1 4 0 0),(17,.ptr 2 2 0 0),(18,.k (.ro [.int .i64,.int .i64])),(19,.k (.int .i64)),(23,.k (.int .i64))],[.box [.k (.int .i64),.k (.int .i64),.k (.ro [.int .i64,.int .i64,.int .i64,.int .i64,.bool,.int .i64,.int .i64,.ro [.int .i64,.int .i64,.int .i64]])],.box [.sub 3 1,.sl 4 1,.sl 5 1,.sl 6 1],.box [.k (.int .i64),.sl 7 4],.row [.int .i64],.row [.int .i64],.row [.int .i64],.row [.int .i64],.row [.int .i64,.int .i64,.int .i64,.ro [.int .i64,.int .i64]]])])]
def l7_42:LSig:=mkLS [2,3,5,19,29,30] [(334,[(2,.k (.ro [.int .i64])),(3,.k (.int .i64)),(5,.k (.int .i64)),(19,.k (.int .i64)),(29,.k (.int .i64)),(30,.k (.int .i64))],[])] [(.ret,[12],[(334,[(12,.k .bool)],[])]),(.exit 8,[3,5,19,29],[(334,[(3,.k (.int .i64)),(5,.k (.int .i64)),(19,.k (.int .i64)),(29,.k (.int .i64))],[])])]
def s34:Sig:=⟨[],[(.k .bool,[])]⟩
end Go.Proofs.Ytgoedfonmocafaa
namespace Go.Proofs.Ytgoedfonmocafaa.Rs
open Go.Lite
set_option maxRecDepth 100000
theorem hC:∀ t Y,C.ty t = some Y → tyOf C.P t = some Y:=by
 intro t Y h
 dsimp only [C] at h ⊢
 exact h
theorem fuelC:C.fuel = 18446744073709551616:=by kernel_rfl
theorem big_eq:big = 4611686018427387904:=rfl
theorem within_dec {x a b:Int}:Lite.within x a b = decide (a ≤ x ∧ x ≤ b):=by simp [Lite.within]
section
variable {α:Type} {p:Nat → Bool} {i len:Nat} {rt rf r:α}
theorem all_step (h:(T.ite (allFrom p i (len - i)) (.leaf rt) (.leaf rf)).run = some r) (hlt:i < len):(p i = false → some rf = some r) ∧ (p i = true → (T.ite (allFrom p (i + 1) (len - (i + 1))) (.leaf rt) (.leaf rf)).run = some r):=by
 rw [show len - i = (len - (i + 1)) + 1 by omega] at h
 simp only [allFrom] at h
 refine ⟨fun hp=>?_,fun hp=>?_⟩
 ·rw [hp,Bool.false_and] at h; exact h
 ·rw [hp,Bool.true_and] at h; exact h
theorem all_end (h:(T.ite (allFrom p i (len - i)) (.leaf rt) (.leaf rf)).run = some r) (hge:¬ i < len):some rt = some r:=by
 rw [show len - i = 0 by omega] at h
 exact h
end
section
variable {p:Nat → Bool} {i len:Nat} {ro r:Ex × List D}
theorem first_step (h:(T.ite (decide (firstFrom p i (len - i) ≥ 0)) (.leaf (.ret,[.i (firstFrom p i (len - i))])) (.leaf ro)).run = some r) (hlt:i < len) :
    (p i = true → some (Ex.ret,[D.i (i:Int)]) = some r) ∧ (p i = false → (T.ite (decide (firstFrom p (i + 1) (len - (i + 1)) ≥ 0)) (.leaf (.ret,[.i (firstFrom p (i + 1) (len - (i + 1)))])) (.leaf ro)).run = some r):=by
 rw [show len - i = (len - (i + 1)) + 1 by omega] at h
 simp only [firstFrom] at h
 refine ⟨fun hp=>?_,fun hp=>?_⟩
 ·simp only [hp,if_true,run_ite,run_leaf] at h
  rw [if_pos (by simp)] at h
  exact h
 ·simp only [hp,Bool.false_eq_true,if_false] at h
  exact h
theorem first_end (h:(T.ite (decide (firstFrom p i (len - i) ≥ 0)) (.leaf (.ret,[.i (firstFrom p i (len - i))])) (.leaf ro)).run = some r) (hge:¬ i < len):some ro = some r:=by
 rw [show len - i = 0 by omega] at h
 simp only [firstFrom,run_ite,run_leaf] at h
 rw [if_neg (by simp)] at h
 exact h
end
noncomputable section
def rg (R:List (List D)) (j:Nat):Int:=ix (R.getD j []) 0
def rs (R:List (List D)) (j:Nat) (v:Int):List (List D):=R.set j [.i v]
end
theorem len_rs (R:List (List D)) (j:Nat) (v:Int):(rs R j v).length = R.length:=by simp [rs]
theorem rg_rs {R:List (List D)} {j:Nat} (hj:j < R.length) (v:Int) (i:Nat):rg (rs R j v) i = if i = j then v else rg R i:=by
 unfold rg rs
 simp only [List.getD_eq_getElem?_getD,List.getElem?_set]
 by_cases e:i = j
 ·subst e; simp [hj,ix,D.I]
 ·rw [if_neg (fun h=>e h.symm),if_neg e]
theorem rg_ge {R:List (List D)} {j:Nat} (hj:R.length ≤ j):rg R j = 0:=by
 unfold rg
 rw [List.getD_eq_getElem?_getD,List.getElem?_eq_none hj]
 rfl
theorem rg_def (R:List (List D)) (j:Nat):((R.getD j []).getD 0 default).I = rg R j:=rfl
theorem rs_def (R:List (List D)) (j:Nat) (v:Int):R.set j [.i v] = rs R j v:=rfl
theorem rg_rep {n j:Nat} {v:Int} (hj:j < n):rg (List.replicate n [.i v]) j = v:=by
 unfold rg
 rw [List.getD_eq_getElem?_getD,List.getElem?_replicate,if_pos hj]
 rfl
theorem upd2 (c:List D) (x y:D):updC c [x,y] 0 0 (List.length [K.int .i64,K.int .i64]) = [x,y]:=by simp [updC]
theorem least_of {P:Nat → Prop} (h:∃ f,P f):∃ m,P m ∧ ∀ k,k < m → ¬ P k:=by
 obtain ⟨f,hf⟩:=h
 induction f using Nat.strongRecOn with
 | _ f ih=>
   by_cases hs:∃ k,k < f ∧ P k
   ·obtain ⟨k,hk,hp⟩:=hs
    exact ih k hk hp
   ·exact ⟨f,hf,fun k hk hp=>hs ⟨k,hk,hp⟩⟩
end Go.Proofs.Ytgoedfonmocafaa.Rs
