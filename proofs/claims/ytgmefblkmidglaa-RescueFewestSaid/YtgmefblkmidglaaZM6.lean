/-
 What the claim rescue_fewest rests on,part 6.
-/
import Derived.Test.YtgmefblkmidglaaZM5
import Derived.Test.YtgmefblkmidglaaProg
namespace Go.Proofs.Ytgmefblkmidglaa
open Go.Lite
def annL:List (Nat × Nat × List Nat):=
 [(4,13,[9,13,14]),
  (5,9,[1,2,3,6,11,13,14,15,16,18,20]),
  (5,20,[1,2,3,6,13,14,15,16,22,24]),
  (5,28,[3,6,13,14,16,25,26,27]),
  (6,4,[1,2,3,7]),
  (6,12,[1,3,8,10]),
  (6,17,[1,3,8,10,11,12]),
  (6,24,[3,8,14]),
  (7,10,[9,11,12]),
  (8,6,[1,2,3,5,6,10,13,14,15,16]),
  (8,15,[1,2,3,13,18,20]),
  (8,19,[1,2,3,13,18,20,21,22]),
  (8,25,[1,2,3,13,23]),
  (8,29,[1,2,3,13,23,24]),
  (8,33,[1,2,3,13,23,24,25,26,27]),
  (8,37,[1,2,3,13,23,24,25,26,28]),
  (10,5,[1,2,3,4,5,11,12]),
  (10,17,[1,2,3,5,11,13,15,17,18]),
  (11,10,[1,5,7,8]),
  (12,8,[1,2,3,4,5,11,13,15]),
  (12,18,[2,3,4,5,11,13,17]),
  (12,27,[5,11,13,22]),
  (13,8,[1,2,3,4,9,11,12]),
  (14,4,[1,2,3,8,9]),
  (15,4,[1,3]),
  (18,4,[1,19,20,21]),
  (18,10,[1,5,19,20,21,61,62,63]),
  (19,4,[1,3]),
  (21,4,[0,1,5]),
  (23,8,[3,4,11,12,13]),
  (23,11,[3,4,11,12,13,14]),
  (23,14,[3,4,11,12,13,14,69,70,71]),
  (24,3,[1,2,3,4,9,10]),
  (24,7,[3,4,9,10,11,12,13]),
  (24,10,[3,4,9,10,11,12,13,14]),
  (25,2,[1,2,5]),
  (28,2,[0,1,5]),
  (29,2,[0,1,5]),
  (30,3,[1,2,3,4,9,10]),
  (30,7,[1,2,3,4,9,10,11,12]),
  (30,11,[1,2,3,4,9,10,11,12,13,14]),
  (31,2,[0,1,2,7]),
  (32,8,[5,10,11,12]),
  (33,2,[1,2,3,4,10]),
  (33,6,[1,2,3,4,10,11,12]),
  (33,10,[1,2,3,4,10,11,12,13,14]),
  (34,5,[4,58,59]),
  (36,3,[1,3,4]),
  (40,8,[1,2,8,46,47,48]),
  (41,4,[0,1,5]),
  (43,3,[0,2,3,5,9,10,11]),
  (43,12,[0,2,3,5,9,10,12]),
  (43,17,[0,2,3,5,13]),
  (43,21,[0,2,3,5,13,14,15,16,17]),
  (43,34,[0,5,19]),
  (46,3,[7,17,18,19]),
  (48,4,[3,5]),
  (49,3,[1,2,3,4,9,10]),
  (49,8,[3,4,9,11]),
  (49,12,[3,4,9,11,12,13]),
  (50,3,[2,3,4,5,9,19,20]),
  (50,9,[2,4,9,33,34]),
  (50,12,[2,4,9,11,33,34,40,41]),
  (50,17,[2,4,9,11,33,34,49,50,51]),
  (51,2,[1,2,8,9,10]),
  (53,3,[1,3,4,8,9,14,15,16]),
  (53,10,[1,3,4,8,9,10,12,14,15,16,25]),
  (55,4,[0,3,4,5,6,7,13,22,23,24]),
  (55,11,[16,42,43,44]),
  (55,17,[0,2,3,8,19]),
  (57,5,[0,1,7,8]),
  (57,9,[0,1,7,8,9,10]),
  (60,6,[0,1,2,7,8,9]),
  (60,14,[0,1,2,7,8,11]),
  (60,28,[8,13,14]),
  (73,3,[2,4,6,7,15,16]),
  (73,9,[2,6,7,9]),
  (73,14,[2,6,7,9,51]),
  (75,1,[0,2,3,8,9,10]),
  (82,3,[0,1,2,3,11,12,13]),
  (83,3,[0,1,5,6]),
  (94,2,[0,1,7,8]),
  (95,2,[0,1,7,8]),
  (96,1,[0,1,2,3,4,6]),
  (96,6,[0,1,2,3,4,6,7,8,9,28,29,30]),
  (97,3,[7,18,19]),
  (98,2,[0,1,7,8]),
  (100,2,[0,1,7,8]),
  (101,0,[0,1]),
  (103,1,[0,2,3,8,9,10]),
  (104,3,[2,3,4,9]),
  (106,1,[0,1,3]),
  (129,2,[0,1,2,7])]
def annXL:List (Nat × Nat × Option Nat × List Nat):=
 [(4,13,some 0,[]),
  (4,13,none,[8]),
  (5,9,some 0,[1,2,3,6,11,13,14,15,16]),
  (5,9,none,[12]),
  (5,20,some 2,[1,2,3,6,13,14,15,16]),
  (5,20,none,[12]),
  (5,28,some 4,[3,14,16,25,26]),
  (5,28,none,[12]),
  (6,4,some 0,[1,2,3]),
  (6,4,none,[6]),
  (6,12,some 2,[3,8]),
  (6,12,none,[6]),
  (6,17,some 4,[1,3,8,10,11]),
  (6,17,none,[6]),
  (6,24,some 6,[]),
  (6,24,none,[6]),
  (7,10,some 0,[]),
  (7,10,none,[8]),
  (8,6,some 0,[1,2,3,6,10,13,14,15]),
  (8,6,none,[12]),
  (8,15,some 2,[1,2,3,13]),
  (8,15,none,[12]),
  (8,19,some 4,[1,2,3,13,18,20,21]),
  (8,19,none,[12]),
  (8,25,some 6,[]),
  (8,25,none,[12]),
  (8,29,some 8,[1,2,3,13,23]),
  (8,29,none,[12]),
  (8,33,some 10,[1,2,3,13,23,24,25,26]),
  (8,33,none,[12]),
  (8,37,some 12,[1,2,3,13,23,24,25,26]),
  (8,37,none,[12]),
  (10,5,some 0,[1,2,3,5,11]),
  (10,5,none,[10]),
  (10,17,some 2,[2,3,5,11,13,15,17]),
  (10,17,none,[10]),
  (11,10,some 0,[]),
  (11,10,none,[4]),
  (12,8,some 0,[2,3,4,5,11,13]),
  (12,8,none,[10]),
  (12,18,some 2,[3,4,5,11,13]),
  (12,18,none,[10]),
  (12,27,some 4,[]),
  (12,27,none,[10]),
  (13,8,some 0,[]),
  (13,8,none,[8]),
  (14,4,some 0,[]),
  (14,4,none,[6]),
  (15,4,some 0,[]),
  (15,4,none,[2]),
  (18,4,some 0,[]),
  (18,4,none,[2]),
  (18,10,some 2,[1,19,20,21]),
  (18,10,none,[2]),
  (19,4,some 0,[]),
  (19,4,none,[2]),
  (21,4,some 0,[]),
  (21,4,none,[4]),
  (23,8,some 0,[3,4,11,12,13]),
  (23,8,none,[8,9,10]),
  (23,11,some 2,[11,14]),
  (23,11,none,[8,9,10]),
  (23,14,some 3,[3,4,11,12,13,14]),
  (23,14,some 4,[3,4,11,12,13,14]),
  (23,14,none,[8,9,10]),
  (24,3,some 0,[1,2,3,4,9,10]),
  (24,3,none,[8]),
  (24,7,some 2,[11]),
  (24,7,none,[8]),
  (24,10,some 4,[3,4,9,10,11,12,13]),
  (24,10,none,[8]),
  (25,2,some 0,[1]),
  (25,2,none,[4]),
  (28,2,some 0,[]),
  (28,2,none,[4]),
  (29,2,some 0,[1]),
  (29,2,none,[4]),
  (30,3,some 0,[9]),
  (30,3,none,[8]),
  (30,7,some 2,[1,2,3,4,9,10]),
  (30,7,none,[8]),
  (30,11,some 4,[1,2,3,4,9,10,11,12,13]),
  (30,11,none,[8]),
  (31,2,some 0,[]),
  (31,2,none,[6]),
  (32,8,some 0,[10]),
  (32,8,none,[8,9]),
  (33,2,some 0,[]),
  (33,2,none,[8,9]),
  (33,6,some 2,[1,2,3,4,10]),
  (33,6,none,[8,9]),
  (33,10,some 4,[1,2,3,4,10,11,12,13]),
  (33,10,none,[8,9]),
  (34,5,some 0,[4]),
  (34,5,none,[2,3]),
  (36,3,some 0,[3]),
  (36,3,none,[2]),
  (40,8,some 0,[8]),
  (40,8,none,[6,7]),
  (41,4,some 0,[]),
  (41,4,none,[4]),
  (43,3,some 0,[0,2,3,5,9,10]),
  (43,3,none,[8]),
  (43,12,some 2,[0,2,3,5]),
  (43,12,none,[8]),
  (43,17,some 4,[0,5]),
  (43,17,none,[8]),
  (43,21,some 6,[0,2,3,5,13,14,15,16]),
  (43,21,none,[8]),
  (43,34,some 8,[]),
  (43,34,none,[8]),
  (46,3,some 0,[7]),
  (46,3,none,[6]),
  (48,4,some 0,[]),
  (48,4,none,[4]),
  (49,3,some 0,[1,2,3,4,9]),
  (49,3,none,[8]),
  (49,8,some 2,[9]),
  (49,8,none,[8]),
  (49,12,some 4,[3,4,11,12]),
  (49,12,none,[8]),
  (50,3,some 0,[2,3,4,5,9]),
  (50,3,none,[8]),
  (50,9,some 2,[2,9]),
  (50,9,none,[8]),
  (50,12,some 4,[2,4,9,11,33,34]),
  (50,12,none,[8]),
  (50,17,some 6,[2,4,11,33,34]),
  (50,17,none,[8]),
  (51,2,some 0,[1]),
  (51,2,none,[4]),
  (53,3,some 0,[9]),
  (53,3,none,[8]),
  (55,4,some 0,[0,4,5,6,7,13]),
  (55,4,none,[12]),
  (55,11,some 2,[16]),
  (55,11,none,[12]),
  (55,17,some 4,[]),
  (55,17,none,[12]),
  (57,5,some 0,[7]),
  (57,5,none,[6]),
  (57,9,some 2,[0,1,7,8]),
  (57,9,none,[6]),
  (60,6,some 0,[0,1,2,7,8]),
  (60,6,none,[6]),
  (60,14,some 2,[8]),
  (60,14,none,[6]),
  (60,28,some 4,[13]),
  (60,28,none,[6]),
  (73,3,some 0,[2,4,6,7]),
  (73,3,none,[6]),
  (73,9,some 2,[7]),
  (73,9,none,[6]),
  (75,1,some 0,[]),
  (75,1,none,[]),
  (82,3,some 0,[12]),
  (82,3,none,[10]),
  (83,3,some 0,[5]),
  (83,3,none,[4]),
  (94,2,some 0,[]),
  (94,2,none,[4]),
  (95,2,some 0,[]),
  (95,2,none,[4]),
  (96,1,some 0,[]),
  (96,1,none,[]),
  (96,6,some 2,[0,1,2,3,4,6,8,9]),
  (96,6,none,[]),
  (97,3,some 0,[7]),
  (97,3,none,[6]),
  (98,2,some 0,[]),
  (98,2,none,[4]),
  (100,2,some 0,[]),
  (100,2,none,[4]),
  (101,0,some 0,[]),
  (101,0,none,[]),
  (103,1,some 0,[]),
  (103,1,none,[]),
  (106,1,some 0,[]),
  (106,1,none,[]),
  (129,2,some 0,[1,7]),
  (129,2,none,[6])]
def annOf (f:FuncId) (k:Nat):Option (List Nat):=(annL.find? fun x=>x.1 == f && x.2.1 == k).map (·.2.2)
def annXOf (f:FuncId) (k:Nat) (e:Option Nat):Option (List Nat):=(annXL.find? fun x=>x.1 == f && x.2.1 == k && x.2.2.1 == e).map (·.2.2.2)
def wrL:List (Nat × List Bool):=[(37,[true,true,false]),(38,[true,false]),(39,[true,false,false]),(55,[true,false,false,false,false,true,false,false,false]),(59,[true,false]),(63,[true,true]),(64,[true,false,false,false]),(74,[true,true,true]),(81,[true,true,true,true]),(93,[true,false]),(101,[true,false]),(102,[true,true,true]),(105,[true]),(125,[true,false]),(126,[true,false,false]),(127,[true]),(128,[true]),(129,[true,false,false]),(131,[true])]
def wrOf (f:FuncId):List Bool:=((wrL.find? fun x=>x.1 == f).map (·.2)).getD []
noncomputable def C0:Cfg:={ P:=Try.prog,ty:=tyOf Try.prog,wr:=wrOf,ann:=annOf,annX:=annXOf,fuel:=2 ^ 64,frz:=fun f=>f == 46 || f == 97,give:=fun _ _=>false,ext:=fun _=>none }
theorem own:ownKnob Try.prog.godebug = none:=by kernel_rfl
theorem mixed:Try.prog.follows .mixedOrders = true:=by kernel_rfl
def fnOk (fn:Func):Bool:=match fn.body with
 | none=>true
 | some c => fn.name != "runtime.NumGoroutine" && regsOk c
theorem fnsOk:Try.prog.funcs.toList.all fnOk = true:=by kernel_rfl
theorem fn_ok {f : FuncId} {fn : Func} {c : Code} (h : Try.prog.funcs[f]? = some fn) (hb : fn.body = some c) : fn.name ≠ "runtime.NumGoroutine" ∧ regsOk c = true := by
 have hm:fn ∈ Try.prog.funcs:=Array.mem_of_getElem? h
 have:=List.all_eq_true.1 fnsOk fn (by simpa using hm)
 unfold fnOk at this
 rw [hb] at this
 simpa using this
theorem callsOk0 (n:Nat):CallOK C0.P (callA C0 n):=by
 refine calls_ok (C:=C0) ?_ ?_ mixed ?_ ?_ n
 ·intro t T h
  dsimp only [C0] at h ⊢
  exact h
 ·intro f E h
  delta C0 at h
  cases h
 ·intro f fn h hb
  obtain ⟨c,hc⟩:=Option.isSome_iff_exists.1 hb
  exact (fn_ok h hc).1
 ·exact fun f fn c h hb=>(fn_ok h hb).2
set_option maxRecDepth 100000
def kNet:AV:=.agg [.int .i64 3,.ro .n true 4 [[.int .i64 0,.int .i64 1,.int .i64 10,.nils],[.int .i64 1,.int .i64 2,.int .i64 5,.ro .b true 2 [[.int .i64 12,.int .i64 20]]],[.int .i64 0,.int .i64 2,.int .i64 30,.nils]]]
def kRow0:Row:=⟨46,[kNet,.int .i64 0,.int .i64 8],.ro .g true 1 [[.int .i64 8],[.int .i64 18],[.int .i64 25]]⟩
theorem kR0:callA C0 8 Unit none kRow0.f kRow0.args [] () = some (kRow0.res,[],()):=by kernel_rfl
def kRow1:Row:=⟨46,[kNet,.int .i64 0,.int .i64 0],.ro .g true 1 [[.int .i64 0],[.int .i64 10],[.int .i64 25]]⟩
theorem kR1:callA C0 8 Unit none kRow1.f kRow1.args [] () = some (kRow1.res,[],()):=by kernel_rfl
def kRow2:Row:=⟨97,[kNet,.int .i64 2,.int .i64 15],.ro .g true 1 [[.int .i64 (-3)],[.int .i64 7],[.int .i64 15]]⟩
theorem kR2:callA C0 8 Unit none kRow2.f kRow2.args [] () = some (kRow2.res,[],()):=by kernel_rfl
def kRow3:Row:=⟨97,[kNet,.int .i64 2,.int .i64 25],.ro .g true 1 [[.int .i64 10],[.int .i64 20],[.int .i64 25]]⟩
theorem kR3:callA C0 8 Unit none kRow3.f kRow3.args [] () = some (kRow3.res,[],()):=by kernel_rfl
def kRow4:Row:=⟨97,[kNet,.int .i64 2,.int .i64 26],.ro .g true 1 [[.int .i64 11],[.int .i64 21],[.int .i64 26]]⟩
theorem kR4:callA C0 8 Unit none kRow4.f kRow4.args [] () = some (kRow4.res,[],()):=by kernel_rfl
def kRow5:Row:=⟨97,[kNet,.int .i64 2,.int .i64 27],.ro .g true 1 [[.int .i64 12],[.int .i64 22],[.int .i64 27]]⟩
theorem kR5:callA C0 8 Unit none kRow5.f kRow5.args [] () = some (kRow5.res,[],()):=by kernel_rfl
def kRow6:Row:=⟨97,[kNet,.int .i64 2,.int .i64 28],.ro .g true 1 [[.int .i64 13],[.int .i64 23],[.int .i64 28]]⟩
theorem kR6:callA C0 8 Unit none kRow6.f kRow6.args [] () = some (kRow6.res,[],()):=by kernel_rfl
def kRow7:Row:=⟨97,[kNet,.int .i64 2,.int .i64 29],.ro .g true 1 [[.int .i64 14],[.int .i64 24],[.int .i64 29]]⟩
theorem kR7:callA C0 8 Unit none kRow7.f kRow7.args [] () = some (kRow7.res,[],()):=by kernel_rfl
def kRow8:Row:=⟨97,[kNet,.int .i64 2,.int .i64 30],.ro .g true 1 [[.int .i64 15],[.int .i64 25],[.int .i64 30]]⟩
theorem kR8:callA C0 8 Unit none kRow8.f kRow8.args [] () = some (kRow8.res,[],()):=by kernel_rfl
def kRow9:Row:=⟨97,[kNet,.int .i64 2,.int .i64 31],.ro .g true 1 [[.int .i64 16],[.int .i64 26],[.int .i64 31]]⟩
theorem kR9:callA C0 8 Unit none kRow9.f kRow9.args [] () = some (kRow9.res,[],()):=by kernel_rfl
def kRow10:Row:=⟨97,[kNet,.int .i64 2,.int .i64 32],.ro .g true 1 [[.int .i64 17],[.int .i64 27],[.int .i64 32]]⟩
theorem kR10:callA C0 8 Unit none kRow10.f kRow10.args [] () = some (kRow10.res,[],()):=by kernel_rfl
def kRow11:Row:=⟨97,[kNet,.int .i64 2,.int .i64 33],.ro .g true 1 [[.int .i64 18],[.int .i64 28],[.int .i64 33]]⟩
theorem kR11:callA C0 8 Unit none kRow11.f kRow11.args [] () = some (kRow11.res,[],()):=by kernel_rfl
def kRow12:Row:=⟨97,[kNet,.int .i64 2,.int .i64 34],.ro .g true 1 [[.int .i64 19],[.int .i64 29],[.int .i64 34]]⟩
theorem kR12:callA C0 8 Unit none kRow12.f kRow12.args [] () = some (kRow12.res,[],()):=by kernel_rfl
def kRow13:Row:=⟨97,[kNet,.int .i64 2,.int .i64 35],.ro .g true 1 [[.int .i64 20],[.int .i64 30],[.int .i64 35]]⟩
theorem kR13:callA C0 8 Unit none kRow13.f kRow13.args [] () = some (kRow13.res,[],()):=by kernel_rfl
def kRow14:Row:=⟨97,[kNet,.int .i64 2,.int .i64 36],.ro .g true 1 [[.int .i64 21],[.int .i64 31],[.int .i64 36]]⟩
theorem kR14:callA C0 8 Unit none kRow14.f kRow14.args [] () = some (kRow14.res,[],()):=by kernel_rfl
def kRow15:Row:=⟨97,[kNet,.int .i64 2,.int .i64 37],.ro .g true 1 [[.int .i64 22],[.int .i64 32],[.int .i64 37]]⟩
theorem kR15:callA C0 8 Unit none kRow15.f kRow15.args [] () = some (kRow15.res,[],()):=by kernel_rfl
def kRow16:Row:=⟨97,[kNet,.int .i64 2,.int .i64 38],.ro .g true 1 [[.int .i64 23],[.int .i64 33],[.int .i64 38]]⟩
theorem kR16:callA C0 8 Unit none kRow16.f kRow16.args [] () = some (kRow16.res,[],()):=by kernel_rfl
def kRow17:Row:=⟨97,[kNet,.int .i64 2,.int .i64 39],.ro .g true 1 [[.int .i64 24],[.int .i64 34],[.int .i64 39]]⟩
theorem kR17:callA C0 8 Unit none kRow17.f kRow17.args [] () = some (kRow17.res,[],()):=by kernel_rfl
def kRow18:Row:=⟨97,[kNet,.int .i64 2,.int .i64 40],.ro .g true 1 [[.int .i64 25],[.int .i64 35],[.int .i64 40]]⟩
theorem kR18:callA C0 8 Unit none kRow18.f kRow18.args [] () = some (kRow18.res,[],()):=by kernel_rfl
def kRow19:Row:=⟨97,[kNet,.int .i64 2,.int .i64 41],.ro .g true 1 [[.int .i64 26],[.int .i64 36],[.int .i64 41]]⟩
theorem kR19:callA C0 8 Unit none kRow19.f kRow19.args [] () = some (kRow19.res,[],()):=by kernel_rfl
def kRow20:Row:=⟨97,[kNet,.int .i64 2,.int .i64 42],.ro .g true 1 [[.int .i64 27],[.int .i64 37],[.int .i64 42]]⟩
theorem kR20:callA C0 8 Unit none kRow20.f kRow20.args [] () = some (kRow20.res,[],()):=by kernel_rfl
def kRow21:Row:=⟨97,[kNet,.int .i64 2,.int .i64 43],.ro .g true 1 [[.int .i64 28],[.int .i64 38],[.int .i64 43]]⟩
theorem kR21:callA C0 8 Unit none kRow21.f kRow21.args [] () = some (kRow21.res,[],()):=by kernel_rfl
def kRow22:Row:=⟨97,[kNet,.int .i64 2,.int .i64 44],.ro .g true 1 [[.int .i64 29],[.int .i64 39],[.int .i64 44]]⟩
theorem kR22:callA C0 8 Unit none kRow22.f kRow22.args [] () = some (kRow22.res,[],()):=by kernel_rfl
def kTbl:List Row:=[kRow0,kRow1,kRow2,kRow3,kRow4,kRow5,kRow6,kRow7,kRow8,kRow9,kRow10,kRow11,kRow12,kRow13,kRow14,kRow15,kRow16,kRow17,kRow18,kRow19,kRow20,kRow21,kRow22]
noncomputable def C1:Cfg:={ C0 with frz:=fun _=>false,ext:=extT kTbl }
theorem kTbl_ok:RowsOK C0 8 kTbl:=⟨kR0,kR1,kR2,kR3,kR4,kR5,kR6,kR7,kR8,kR9,kR10,kR11,kR12,kR13,kR14,kR15,kR16,kR17,kR18,kR19,kR20,kR21,kR22,trivial⟩
theorem callsOk1 (n:Nat):CallOK C1.P (callA C1 n):=by
 refine calls_ok (C:=C1) ?_ ?_ mixed ?_ ?_ n
 ·intro t T h
  dsimp only [C1,C0] at h ⊢
  exact h
 ·exact ext_ok (C0:=C0) rfl rfl (callsOk0 8) kTbl_ok
 ·intro f fn h hb
  obtain ⟨c,hc⟩:=Option.isSome_iff_exists.1 hb
  exact (fn_ok h hc).1
 ·exact fun f fn c h hb=>(fn_ok h hb).2
set_option maxRecDepth 100000
noncomputable def kfn:Func:=fnAt C1.P 16
noncomputable def kbody:Code:=bodyOf kfn
def ks0:St:={ tmps:=List.replicate 100 .und,h:=[] }
def ks1:St:={ tmps:=[.bool false,.und,.und,.und,.und,.und,.und,.und,.und,.und,.und,.und,.und,.und,.und,.und,.und,.und,.und,.und,.und,.und,.und,.und,.und,.und,.und,.und,.und,.und,.und,.und,.und,.und,.und,.und,.und,.und,.und,.und,.und,.und,.und,.und,.und,.und,.und,.und,.und,.und,.und,.und,.und,.und,.und,.und,.und,.und,.und,.und,.und,.und,.und,.und,.und,.und,.und,.und,.und,.und,.und,.und,.und,.und,.und,.und,.und,.und,.und,.und,.und,.und,.und,.und,.und,.und,.und,.und,.und,.und,.und,.und,.und,.und,.und,.und,.und,.und,.und,.und],h:=[] }
def ks2:St:={ tmps:=[.bool false,.ro .g true 1 [[.int .i64 8],[.int .i64 18],[.int .i64 25]],.int .i64 0,.und,.und,.und,.und,.und,.und,.und,.und,.und,.tup [.ro .g true 1 [[.int .i64 8],[.int .i64 18],[.int .i64 25]],.int .i64 0],.agg [.int .i64 3,.sl 0 4 0 3 (some 3)],.tup [.ro .g true 1 [[.int .i64 8],[.int .i64 18],[.int .i64 25]],.int .i64 0],.ro .g true 1 [[.int .i64 8],[.int .i64 18],[.int .i64 25]],.int .i64 0,.und,.und,.und,.und,.und,.und,.und,.und,.und,.und,.und,.und,.und,.und,.und,.und,.und,.und,.und,.und,.und,.und,.und,.und,.und,.und,.und,.und,.und,.und,.und,.und,.und,.und,.und,.und,.und,.und,.und,.und,.und,.und,.und,.und,.und,.und,.und,.und,.und,.und,.und,.und,.und,.und,.und,.und,.und,.und,.und,.und,.und,.und,.und,.und,.und,.und,.und,.und,.und,.und,.und,.und,.und,.und,.und,.und,.und,.und,.und,.und,.und,.und,.und],h:=[some (.row 4 [[.int .i64 0,.int .i64 1,.int .i64 10,.nils],[.int .i64 1,.int .i64 2,.int .i64 5,.sl 1 2 0 1 (some 1)],[.int .i64 0,.int .i64 2,.int .i64 30,.nils]] false),some (.row 2 [[.int .i64 12,.int .i64 20]] true)] }
def ks3:St:={ tmps:=[.bool false,.ro .g true 1 [[.int .i64 8],[.int .i64 18],[.int .i64 25]],.int .i64 0,.sl 4 2 0 2 none,.int .i64 25,.int .i64 0,.und,.und,.und,.und,.und,.und,.tup [.ro .g true 1 [[.int .i64 8],[.int .i64 18],[.int .i64 25]],.int .i64 0],.agg [.int .i64 3,.sl 0 4 0 3 (some 3)],.tup [.ro .g true 1 [[.int .i64 8],[.int .i64 18],[.int .i64 25]],.int .i64 0],.ro .g true 1 [[.int .i64 8],[.int .i64 18],[.int .i64 25]],.int .i64 0,.tup [.sl 4 2 0 2 none,.int .i64 25,.int .i64 0],.agg [.int .i64 3,.sl 2 4 0 3 (some 3)],.tup [.sl 4 2 0 2 none,.int .i64 25,.int .i64 0],.sl 4 2 0 2 none,.int .i64 25,.int .i64 0,.und,.und,.und,.und,.und,.und,.und,.und,.und,.und,.und,.und,.und,.und,.und,.und,.und,.und,.und,.und,.und,.und,.und,.und,.und,.und,.und,.und,.und,.und,.und,.und,.und,.und,.und,.und,.und,.und,.und,.und,.und,.und,.und,.und,.und,.und,.und,.und,.und,.und,.und,.und,.und,.und,.und,.und,.und,.und,.und,.und,.und,.und,.und,.und,.und,.und,.und,.und,.und,.und,.und,.und,.und,.und,.und,.und,.und],h:=[some (.row 4 [[.int .i64 0,.int .i64 1,.int .i64 10,.nils],[.int .i64 1,.int .i64 2,.int .i64 5,.sl 1 2 0 1 (some 1)],[.int .i64 0,.int .i64 2,.int .i64 30,.nils]] false),some (.row 2 [[.int .i64 12,.int .i64 20]] true),some (.row 4 [[.int .i64 0,.int .i64 1,.int .i64 10,.nils],[.int .i64 1,.int .i64 2,.int .i64 5,.sl 3 2 0 1 (some 1)],[.int .i64 0,.int .i64 2,.int .i64 30,.nils]] false),some (.row 2 [[.int .i64 12,.int .i64 20]] true),some (.row 2 [[.int .i64 0,.int .i64 0],[.int .i64 1,.int .i64 20]] true)] }
def ks4:St:={ tmps:=[.bool false,.ro .g true 1 [[.int .i64 8],[.int .i64 18],[.int .i64 25]],.int .i64 0,.sl 4 2 0 2 none,.int .i64 25,.int .i64 0,.sl 9 3 0 1 none,.int .i64 0,.und,.und,.und,.und,.tup [.ro .g true 1 [[.int .i64 8],[.int .i64 18],[.int .i64 25]],.int .i64 0],.agg [.int .i64 3,.sl 0 4 0 3 (some 3)],.tup [.ro .g true 1 [[.int .i64 8],[.int .i64 18],[.int .i64 25]],.int .i64 0],.ro .g true 1 [[.int .i64 8],[.int .i64 18],[.int .i64 25]],.int .i64 0,.tup [.sl 4 2 0 2 none,.int .i64 25,.int .i64 0],.agg [.int .i64 3,.sl 2 4 0 3 (some 3)],.tup [.sl 4 2 0 2 none,.int .i64 25,.int .i64 0],.sl 4 2 0 2 none,.int .i64 25,.int .i64 0,.tup [.sl 9 3 0 1 none,.int .i64 0],.agg [.int .i64 3,.sl 5 4 0 3 (some 3)],.agg [.int .i64 0,.int .i64 3,.int .i64 0,.int .i64 100],.sl 7 4 0 1 (some 1),.agg [.int .i64 2,.int .i64 1,.int .i64 15],.sl 8 3 0 1 (some 1),.tup [.sl 9 3 0 1 none,.int .i64 0],.sl 9 3 0 1 none,.int .i64 0,.und,.und,.und,.und,.und,.und,.und,.und,.und,.und,.und,.und,.und,.und,.und,.und,.und,.und,.und,.und,.und,.und,.und,.und,.und,.und,.und,.und,.und,.und,.und,.und,.und,.und,.und,.und,.und,.und,.und,.und,.und,.und,.und,.und,.und,.und,.und,.und,.und,.und,.und,.und,.und,.und,.und,.und,.und,.und,.und,.und,.und,.und,.und,.und,.und,.und,.und,.und],h:=[some (.row 4 [[.int .i64 0,.int .i64 1,.int .i64 10,.nils],[.int .i64 1,.int .i64 2,.int .i64 5,.sl 1 2 0 1 (some 1)],[.int .i64 0,.int .i64 2,.int .i64 30,.nils]] false),some (.row 2 [[.int .i64 12,.int .i64 20]] true),some (.row 4 [[.int .i64 0,.int .i64 1,.int .i64 10,.nils],[.int .i64 1,.int .i64 2,.int .i64 5,.sl 3 2 0 1 (some 1)],[.int .i64 0,.int .i64 2,.int .i64 30,.nils]] false),some (.row 2 [[.int .i64 12,.int .i64 20]] true),some (.row 2 [[.int .i64 0,.int .i64 0],[.int .i64 1,.int .i64 20]] true),some (.row 4 [[.int .i64 0,.int .i64 1,.int .i64 10,.nils],[.int .i64 1,.int .i64 2,.int .i64 5,.sl 6 2 0 1 (some 1)],[.int .i64 0,.int .i64 2,.int .i64 30,.nils]] false),some (.row 2 [[.int .i64 12,.int .i64 20]] true),some (.row 4 [[.int .i64 0,.int .i64 3,.int .i64 0,.int .i64 100]] true),some (.row 3 [[.int .i64 2,.int .i64 1,.int .i64 15]] true),some (.row 3 [[.int .i64 0,.int .i64 0,.int .i64 10]] true)] }
def ks5:St:={ tmps:=[.bool false,.ro .g true 1 [[.int .i64 8],[.int .i64 18],[.int .i64 25]],.int .i64 0,.sl 4 2 0 2 none,.int .i64 25,.int .i64 0,.sl 9 3 0 1 none,.int .i64 0,.ptr 10 15 0 0,.int .i64 0,.und,.und,.tup [.ro .g true 1 [[.int .i64 8],[.int .i64 18],[.int .i64 25]],.int .i64 0],.agg [.int .i64 3,.sl 0 4 0 3 (some 3)],.tup [.ro .g true 1 [[.int .i64 8],[.int .i64 18],[.int .i64 25]],.int .i64 0],.ro .g true 1 [[.int .i64 8],[.int .i64 18],[.int .i64 25]],.int .i64 0,.tup [.sl 4 2 0 2 none,.int .i64 25,.int .i64 0],.agg [.int .i64 3,.sl 2 4 0 3 (some 3)],.tup [.sl 4 2 0 2 none,.int .i64 25,.int .i64 0],.sl 4 2 0 2 none,.int .i64 25,.int .i64 0,.tup [.sl 9 3 0 1 none,.int .i64 0],.agg [.int .i64 3,.sl 5 4 0 3 (some 3)],.agg [.int .i64 0,.int .i64 3,.int .i64 0,.int .i64 100],.sl 7 4 0 1 (some 1),.agg [.int .i64 2,.int .i64 1,.int .i64 15],.sl 8 3 0 1 (some 1),.tup [.sl 9 3 0 1 none,.int .i64 0],.sl 9 3 0 1 none,.int .i64 0,.tup [.ptr 10 15 0 0,.int .i64 0],.agg [.int .i64 1,.int .i64 60,.int .i64 1,.int .i64 30,.int .i64 600,.int .i64 3],.tup [.ptr 10 15 0 0,.int .i64 0],.ptr 10 15 0 0,.int .i64 0,.und,.und,.und,.und,.und,.und,.und,.und,.und,.und,.und,.und,.und,.und,.und,.und,.und,.und,.und,.und,.und,.und,.und,.und,.und,.und,.und,.und,.und,.und,.und,.und,.und,.und,.und,.und,.und,.und,.und,.und,.und,.und,.und,.und,.und,.und,.und,.und,.und,.und,.und,.und,.und,.und,.und,.und,.und,.und,.und,.und,.und,.und,.und],h:=[some (.row 4 [[.int .i64 0,.int .i64 1,.int .i64 10,.nils],[.int .i64 1,.int .i64 2,.int .i64 5,.sl 1 2 0 1 (some 1)],[.int .i64 0,.int .i64 2,.int .i64 30,.nils]] false),some (.row 2 [[.int .i64 12,.int .i64 20]] true),some (.row 4 [[.int .i64 0,.int .i64 1,.int .i64 10,.nils],[.int .i64 1,.int .i64 2,.int .i64 5,.sl 3 2 0 1 (some 1)],[.int .i64 0,.int .i64 2,.int .i64 30,.nils]] false),some (.row 2 [[.int .i64 12,.int .i64 20]] true),some (.row 2 [[.int .i64 0,.int .i64 0],[.int .i64 1,.int .i64 20]] true),some (.row 4 [[.int .i64 0,.int .i64 1,.int .i64 10,.nils],[.int .i64 1,.int .i64 2,.int .i64 5,.sl 6 2 0 1 (some 1)],[.int .i64 0,.int .i64 2,.int .i64 30,.nils]] false),some (.row 2 [[.int .i64 12,.int .i64 20]] true),some (.row 4 [[.int .i64 0,.int .i64 3,.int .i64 0,.int .i64 100]] true),some (.row 3 [[.int .i64 2,.int .i64 1,.int .i64 15]] true),some (.row 3 [[.int .i64 0,.int .i64 0,.int .i64 10]] true),some (.row 15 [[.int .i64 1,.int .i64 60,.int .i64 1,.int .i64 30,.int .i64 600,.int .i64 3,.bool false,.int .i64 0,.bool false,.bool false,.int .i64 0,.bool false,.sl 11 3 0 1 (some 1),.sl 12 3 0 1 (some 1),.sl 13 5 0 3 (some 3)]] false),some (.row 3 [[.bool false,.int .i64 0,.bool false]] true),some (.row 3 [[.bool false,.int .i64 0,.bool false]] true),some (.row 5 [[.bool false,.int .i64 0,.int .i64 (-1),.bool false,.bool false],[.bool false,.int .i64 0,.int .i64 (-1),.bool false,.bool false],[.bool false,.int .i64 0,.int .i64 (-1),.bool false,.bool false]] true)] }
def ks6:St:={ tmps:=[.bool false,.ro .g true 1 [[.int .i64 8],[.int .i64 18],[.int .i64 25]],.int .i64 0,.sl 4 2 0 2 none,.int .i64 25,.int .i64 0,.sl 9 3 0 1 none,.int .i64 0,.ptr 10 15 0 0,.int .i64 0,.und,.und,.tup [.ro .g true 1 [[.int .i64 8],[.int .i64 18],[.int .i64 25]],.int .i64 0],.agg [.int .i64 3,.sl 0 4 0 3 (some 3)],.tup [.ro .g true 1 [[.int .i64 8],[.int .i64 18],[.int .i64 25]],.int .i64 0],.ro .g true 1 [[.int .i64 8],[.int .i64 18],[.int .i64 25]],.int .i64 0,.tup [.sl 4 2 0 2 none,.int .i64 25,.int .i64 0],.agg [.int .i64 3,.sl 2 4 0 3 (some 3)],.tup [.sl 4 2 0 2 none,.int .i64 25,.int .i64 0],.sl 4 2 0 2 none,.int .i64 25,.int .i64 0,.tup [.sl 9 3 0 1 none,.int .i64 0],.agg [.int .i64 3,.sl 5 4 0 3 (some 3)],.agg [.int .i64 0,.int .i64 3,.int .i64 0,.int .i64 100],.sl 7 4 0 1 (some 1),.agg [.int .i64 2,.int .i64 1,.int .i64 15],.sl 8 3 0 1 (some 1),.tup [.sl 9 3 0 1 none,.int .i64 0],.sl 9 3 0 1 none,.int .i64 0,.tup [.ptr 10 15 0 0,.int .i64 0],.agg [.int .i64 1,.int .i64 60,.int .i64 1,.int .i64 30,.int .i64 600,.int .i64 3],.tup [.ptr 10 15 0 0,.int .i64 0],.ptr 10 15 0 0,.int .i64 0,.int .i64 0,.bool false,.bool false,.int .i64 0,.bool false,.bool false,.bool false,.int .i64 0,.bool false,.bool false,.bool false,.int .i64 0,.bool false,.bool false,.bool false,.ptr 10 15 0 0,.bool false,.bool false,.bool false,.sl 4 2 0 2 none,.int .i64 2,.bool false,.bool false,.bool false,.sl 9 3 0 1 none,.int .i64 1,.bool false,.bool false,.und,.und,.und,.und,.und,.und,.und,.und,.und,.und,.und,.und,.und,.und,.und,.und,.und,.und,.und,.und,.und,.und,.und,.und,.und,.und,.und,.und,.und,.und,.und,.und,.und,.und,.und],h:=[some (.row 4 [[.int .i64 0,.int .i64 1,.int .i64 10,.nils],[.int .i64 1,.int .i64 2,.int .i64 5,.sl 1 2 0 1 (some 1)],[.int .i64 0,.int .i64 2,.int .i64 30,.nils]] false),some (.row 2 [[.int .i64 12,.int .i64 20]] true),some (.row 4 [[.int .i64 0,.int .i64 1,.int .i64 10,.nils],[.int .i64 1,.int .i64 2,.int .i64 5,.sl 3 2 0 1 (some 1)],[.int .i64 0,.int .i64 2,.int .i64 30,.nils]] false),some (.row 2 [[.int .i64 12,.int .i64 20]] true),some (.row 2 [[.int .i64 0,.int .i64 0],[.int .i64 1,.int .i64 20]] true),some (.row 4 [[.int .i64 0,.int .i64 1,.int .i64 10,.nils],[.int .i64 1,.int .i64 2,.int .i64 5,.sl 6 2 0 1 (some 1)],[.int .i64 0,.int .i64 2,.int .i64 30,.nils]] false),some (.row 2 [[.int .i64 12,.int .i64 20]] true),some (.row 4 [[.int .i64 0,.int .i64 3,.int .i64 0,.int .i64 100]] true),some (.row 3 [[.int .i64 2,.int .i64 1,.int .i64 15]] true),some (.row 3 [[.int .i64 0,.int .i64 0,.int .i64 10]] true),some (.row 15 [[.int .i64 1,.int .i64 60,.int .i64 1,.int .i64 30,.int .i64 600,.int .i64 3,.bool false,.int .i64 0,.bool false,.bool false,.int .i64 0,.bool false,.sl 11 3 0 1 (some 1),.sl 12 3 0 1 (some 1),.sl 13 5 0 3 (some 3)]] false),some (.row 3 [[.bool false,.int .i64 0,.bool false]] true),some (.row 3 [[.bool false,.int .i64 0,.bool false]] true),some (.row 5 [[.bool false,.int .i64 0,.int .i64 (-1),.bool false,.bool false],[.bool false,.int .i64 0,.int .i64 (-1),.bool false,.bool false],[.bool false,.int .i64 0,.int .i64 (-1),.bool false,.bool false]] true)] }
def ks7:St:={ tmps:=[.bool false,.ro .g true 1 [[.int .i64 8],[.int .i64 18],[.int .i64 25]],.int .i64 0,.sl 4 2 0 2 none,.int .i64 25,.int .i64 0,.sl 9 3 0 1 none,.int .i64 0,.ptr 10 15 0 0,.int .i64 0,.sl 14 1 0 3 none,.int .i64 0,.tup [.ro .g true 1 [[.int .i64 8],[.int .i64 18],[.int .i64 25]],.int .i64 0],.agg [.int .i64 3,.sl 0 4 0 3 (some 3)],.tup [.ro .g true 1 [[.int .i64 8],[.int .i64 18],[.int .i64 25]],.int .i64 0],.ro .g true 1 [[.int .i64 8],[.int .i64 18],[.int .i64 25]],.int .i64 0,.tup [.sl 4 2 0 2 none,.int .i64 25,.int .i64 0],.agg [.int .i64 3,.sl 2 4 0 3 (some 3)],.tup [.sl 4 2 0 2 none,.int .i64 25,.int .i64 0],.sl 4 2 0 2 none,.int .i64 25,.int .i64 0,.tup [.sl 9 3 0 1 none,.int .i64 0],.agg [.int .i64 3,.sl 5 4 0 3 (some 3)],.agg [.int .i64 0,.int .i64 3,.int .i64 0,.int .i64 100],.sl 7 4 0 1 (some 1),.agg [.int .i64 2,.int .i64 1,.int .i64 15],.sl 8 3 0 1 (some 1),.tup [.sl 9 3 0 1 none,.int .i64 0],.sl 9 3 0 1 none,.int .i64 0,.tup [.ptr 10 15 0 0,.int .i64 0],.agg [.int .i64 1,.int .i64 60,.int .i64 1,.int .i64 30,.int .i64 600,.int .i64 3],.tup [.ptr 10 15 0 0,.int .i64 0],.ptr 10 15 0 0,.int .i64 0,.int .i64 0,.bool false,.bool false,.int .i64 0,.bool false,.bool false,.bool false,.int .i64 0,.bool false,.bool false,.bool false,.int .i64 0,.bool false,.bool false,.bool false,.ptr 10 15 0 0,.bool false,.bool false,.bool false,.sl 4 2 0 2 none,.int .i64 2,.bool false,.bool false,.bool false,.sl 9 3 0 1 none,.int .i64 1,.bool false,.bool false,.tup [.sl 14 1 0 3 none,.int .i64 0],.ptr 10 15 0 0,.tup [.sl 14 1 0 3 none,.int .i64 0],.sl 14 1 0 3 none,.int .i64 0,.und,.und,.und,.und,.und,.und,.und,.und,.und,.und,.und,.und,.und,.und,.und,.und,.und,.und,.und,.und,.und,.und,.und,.und,.und,.und,.und,.und,.und,.und],h:=[some (.row 4 [[.int .i64 0,.int .i64 1,.int .i64 10,.nils],[.int .i64 1,.int .i64 2,.int .i64 5,.sl 1 2 0 1 (some 1)],[.int .i64 0,.int .i64 2,.int .i64 30,.nils]] false),some (.row 2 [[.int .i64 12,.int .i64 20]] true),some (.row 4 [[.int .i64 0,.int .i64 1,.int .i64 10,.nils],[.int .i64 1,.int .i64 2,.int .i64 5,.sl 3 2 0 1 (some 1)],[.int .i64 0,.int .i64 2,.int .i64 30,.nils]] false),some (.row 2 [[.int .i64 12,.int .i64 20]] true),some (.row 2 [[.int .i64 0,.int .i64 0],[.int .i64 1,.int .i64 20]] true),some (.row 4 [[.int .i64 0,.int .i64 1,.int .i64 10,.nils],[.int .i64 1,.int .i64 2,.int .i64 5,.sl 6 2 0 1 (some 1)],[.int .i64 0,.int .i64 2,.int .i64 30,.nils]] false),some (.row 2 [[.int .i64 12,.int .i64 20]] true),some (.row 4 [[.int .i64 0,.int .i64 3,.int .i64 0,.int .i64 100]] true),some (.row 3 [[.int .i64 2,.int .i64 1,.int .i64 15]] true),some (.row 3 [[.int .i64 0,.int .i64 0,.int .i64 10]] true),some (.row 15 [[.int .i64 1,.int .i64 60,.int .i64 1,.int .i64 30,.int .i64 600,.int .i64 3,.bool false,.int .i64 0,.bool false,.bool false,.int .i64 0,.bool false,.sl 11 3 0 1 (some 1),.sl 12 3 0 1 (some 1),.sl 13 5 0 3 (some 3)]] false),some (.row 3 [[.bool false,.int .i64 0,.bool false]] true),some (.row 3 [[.bool false,.int .i64 0,.bool false]] true),some (.row 5 [[.bool false,.int .i64 0,.int .i64 (-1),.bool false,.bool false],[.bool false,.int .i64 0,.int .i64 (-1),.bool false,.bool false],[.bool false,.int .i64 0,.int .i64 (-1),.bool false,.bool false]] true),some (.row 1 [[.int .i64 1],[.int .i64 3],[.int .i64 4]] true)] }
def ks8:St:={ tmps:=[.bool true,.ro .g true 1 [[.int .i64 8],[.int .i64 18],[.int .i64 25]],.int .i64 0,.sl 4 2 0 2 none,.int .i64 25,.int .i64 0,.sl 9 3 0 1 none,.int .i64 0,.ptr 10 15 0 0,.int .i64 0,.sl 14 1 0 3 none,.int .i64 0,.tup [.ro .g true 1 [[.int .i64 8],[.int .i64 18],[.int .i64 25]],.int .i64 0],.agg [.int .i64 3,.sl 0 4 0 3 (some 3)],.tup [.ro .g true 1 [[.int .i64 8],[.int .i64 18],[.int .i64 25]],.int .i64 0],.ro .g true 1 [[.int .i64 8],[.int .i64 18],[.int .i64 25]],.int .i64 0,.tup [.sl 4 2 0 2 none,.int .i64 25,.int .i64 0],.agg [.int .i64 3,.sl 2 4 0 3 (some 3)],.tup [.sl 4 2 0 2 none,.int .i64 25,.int .i64 0],.sl 4 2 0 2 none,.int .i64 25,.int .i64 0,.tup [.sl 9 3 0 1 none,.int .i64 0],.agg [.int .i64 3,.sl 5 4 0 3 (some 3)],.agg [.int .i64 0,.int .i64 3,.int .i64 0,.int .i64 100],.sl 7 4 0 1 (some 1),.agg [.int .i64 2,.int .i64 1,.int .i64 15],.sl 8 3 0 1 (some 1),.tup [.sl 9 3 0 1 none,.int .i64 0],.sl 9 3 0 1 none,.int .i64 0,.tup [.ptr 10 15 0 0,.int .i64 0],.agg [.int .i64 1,.int .i64 60,.int .i64 1,.int .i64 30,.int .i64 600,.int .i64 3],.tup [.ptr 10 15 0 0,.int .i64 0],.ptr 10 15 0 0,.int .i64 0,.int .i64 0,.bool false,.bool false,.int .i64 0,.bool false,.bool false,.bool false,.int .i64 0,.bool false,.bool false,.bool false,.int .i64 0,.bool false,.bool false,.bool false,.ptr 10 15 0 0,.bool false,.bool false,.bool false,.sl 4 2 0 2 none,.int .i64 2,.bool false,.bool false,.bool false,.sl 9 3 0 1 none,.int .i64 1,.bool false,.bool false,.tup [.sl 14 1 0 3 none,.int .i64 0],.ptr 10 15 0 0,.tup [.sl 14 1 0 3 none,.int .i64 0],.sl 14 1 0 3 none,.int .i64 0,.int .i64 0,.bool true,.bool true,.ro .g true 1 [[.int .i64 8],[.int .i64 18],[.int .i64 25]],.sl 15 1 0 3 (some 3),.bool true,.bool true,.bool true,.sl 4 2 0 2 none,.ptr 4 2 1 0,.agg [.int .i64 1,.int .i64 20],.agg [.int .i64 1,.int .i64 20],.bool true,.bool true,.bool true,.int .i64 25,.bool true,.bool true,.bool true,.sl 9 3 0 1 none,.ptr 9 3 0 0,.agg [.int .i64 0,.int .i64 0,.int .i64 10],.agg [.int .i64 0,.int .i64 0,.int .i64 10],.bool true,.bool true,.bool true,.sl 14 1 0 3 none,.sl 16 1 0 3 (some 3),.bool true,.bool true],h:=[some (.row 4 [[.int .i64 0,.int .i64 1,.int .i64 10,.nils],[.int .i64 1,.int .i64 2,.int .i64 5,.sl 1 2 0 1 (some 1)],[.int .i64 0,.int .i64 2,.int .i64 30,.nils]] false),some (.row 2 [[.int .i64 12,.int .i64 20]] true),some (.row 4 [[.int .i64 0,.int .i64 1,.int .i64 10,.nils],[.int .i64 1,.int .i64 2,.int .i64 5,.sl 3 2 0 1 (some 1)],[.int .i64 0,.int .i64 2,.int .i64 30,.nils]] false),some (.row 2 [[.int .i64 12,.int .i64 20]] true),some (.row 2 [[.int .i64 0,.int .i64 0],[.int .i64 1,.int .i64 20]] true),some (.row 4 [[.int .i64 0,.int .i64 1,.int .i64 10,.nils],[.int .i64 1,.int .i64 2,.int .i64 5,.sl 6 2 0 1 (some 1)],[.int .i64 0,.int .i64 2,.int .i64 30,.nils]] false),some (.row 2 [[.int .i64 12,.int .i64 20]] true),some (.row 4 [[.int .i64 0,.int .i64 3,.int .i64 0,.int .i64 100]] true),some (.row 3 [[.int .i64 2,.int .i64 1,.int .i64 15]] true),some (.row 3 [[.int .i64 0,.int .i64 0,.int .i64 10]] true),some (.row 15 [[.int .i64 1,.int .i64 60,.int .i64 1,.int .i64 30,.int .i64 600,.int .i64 3,.bool false,.int .i64 0,.bool false,.bool false,.int .i64 0,.bool false,.sl 11 3 0 1 (some 1),.sl 12 3 0 1 (some 1),.sl 13 5 0 3 (some 3)]] false),some (.row 3 [[.bool false,.int .i64 0,.bool false]] true),some (.row 3 [[.bool false,.int .i64 0,.bool false]] true),some (.row 5 [[.bool false,.int .i64 0,.int .i64 (-1),.bool false,.bool false],[.bool false,.int .i64 0,.int .i64 (-1),.bool false,.bool false],[.bool false,.int .i64 0,.int .i64 (-1),.bool false,.bool false]] true),some (.row 1 [[.int .i64 1],[.int .i64 3],[.int .i64 4]] true),some (.row 1 [[.int .i64 8],[.int .i64 18],[.int .i64 25]] true),some (.row 1 [[.int .i64 1],[.int .i64 3],[.int .i64 4]] true)] }
theorem kp0:execA C1 (callA C1 11) 16 0 (none:Option (Hd Unit)) (partC 0 kbody) ks0 () = some (.normal,ks1,()):=by kernel_rfl
theorem kr0:isSeq (restC 0 kbody) = true:=by kernel_rfl
theorem kp1:execA C1 (callA C1 11) 16 0 (none:Option (Hd Unit)) (partC 1 kbody) ks1 () = some (.normal,ks2,()):=by kernel_rfl
theorem kr1:isSeq (restC 1 kbody) = true:=by kernel_rfl
theorem kp2:execA C1 (callA C1 11) 16 0 (none:Option (Hd Unit)) (partC 2 kbody) ks2 () = some (.normal,ks3,()):=by kernel_rfl
theorem kr2:isSeq (restC 2 kbody) = true:=by kernel_rfl
theorem kp3:execA C1 (callA C1 11) 16 0 (none:Option (Hd Unit)) (partC 3 kbody) ks3 () = some (.normal,ks4,()):=by kernel_rfl
theorem kr3:isSeq (restC 3 kbody) = true:=by kernel_rfl
theorem kp4:execA C1 (callA C1 11) 16 0 (none:Option (Hd Unit)) (partC 4 kbody) ks4 () = some (.normal,ks5,()):=by kernel_rfl
theorem kr4:isSeq (restC 4 kbody) = true:=by kernel_rfl
theorem kp5:execA C1 (callA C1 11) 16 0 (none:Option (Hd Unit)) (partC 5 kbody) ks5 () = some (.normal,ks6,()):=by kernel_rfl
theorem kr5:isSeq (restC 5 kbody) = true:=by kernel_rfl
theorem kp6:execA C1 (callA C1 11) 16 0 (none:Option (Hd Unit)) (partC 6 kbody) ks6 () = some (.normal,ks7,()):=by kernel_rfl
theorem kr6:isSeq (restC 6 kbody) = true:=by kernel_rfl
theorem kp7:execA C1 (callA C1 11) 16 0 (none:Option (Hd Unit)) (partC 7 kbody) ks7 () = some (.normal,ks8,()):=by kernel_rfl
theorem kr7:isSeq (restC 7 kbody) = true:=by kernel_rfl
theorem kq:lastIs C1 (callA C1 11) 16 kfn (restC 8 kbody) ks8 = true:=by kernel_rfl
theorem k1:(C1.P.funcs[16]?).isSome = true:=by kernel_rfl
theorem k2:(kfn.body.isSome && !hasDef kbody) = true:=by kernel_rfl
theorem k3:(⟨List.replicate kfn.ntmps .und,[]⟩:St) = ks0:=by kernel_rfl
theorem ke8:EndsTrue C1 (callA C1 11) 16 kfn (restC 8 kbody) ks8:=lastIs_spec kq
theorem ke7:EndsTrue C1 (callA C1 11) 16 kfn (restC 7 kbody) ks7:=spine_step kr7 kp7 ke8
theorem ke6:EndsTrue C1 (callA C1 11) 16 kfn (restC 6 kbody) ks6:=spine_step kr6 kp6 ke7
theorem ke5:EndsTrue C1 (callA C1 11) 16 kfn (restC 5 kbody) ks5:=spine_step kr5 kp5 ke6
theorem ke4:EndsTrue C1 (callA C1 11) 16 kfn (restC 4 kbody) ks4:=spine_step kr4 kp4 ke5
theorem ke3:EndsTrue C1 (callA C1 11) 16 kfn (restC 3 kbody) ks3:=spine_step kr3 kp3 ke4
theorem ke2:EndsTrue C1 (callA C1 11) 16 kfn (restC 2 kbody) ks2:=spine_step kr2 kp2 ke3
theorem ke1:EndsTrue C1 (callA C1 11) 16 kfn (restC 1 kbody) ks1:=spine_step kr1 kp1 ke2
theorem ke0:EndsTrue C1 (callA C1 11) 16 kfn (restC 0 kbody) ks0:=spine_step kr0 kp0 ke1
theorem known1:callA C1 12 Unit none 16 [] [] () = some (.bool true,[],()):=spine_call k1 rfl k2 k3 ke0
def kTrue:List Row:=[⟨16,[],.bool true⟩]
def fzoOf (o:Oper):List Nat:=match o.op with
 | .buildSlice t _ ps=>if t = 123 then ps.toList.filterMap fun p=>match p.2 with
   | .tmp t=>some t
   | _=>none
   else []
 | .move (.tmp x)=>if x = 11 ∧ o.dst = some 86 then [11] else if x = 14 ∧ o.dst = some 100 then [13] else []
 | .assign (.const (.bool false))=>if o.dst = some 12 then [0] else []
 | _=>[]
noncomputable def C:Cfg:={ C0 with fzo:=fzoOf,frz:=fun _=>false,ext:=extT kTrue,wr:=fun f=>match f with
 | 40=>[true,false,false]
 | 57=>[true,true,true]
 | 32=>[true,true,true,true]
 | 33=>[true,true,true,true]
 | 55=>[true,true,true,true,true,true,true,true,true]
 | f=>C0.wr f }
theorem callsOk (n:Nat):CallOK C.P (callA C n):=by
 refine calls_ok (C:=C) ?_ ?_ mixed ?_ ?_ n
 ·intro t T h
  dsimp only [C,C0] at h ⊢
  exact h
 ·exact ext_ok (C0:=C1) rfl rfl (callsOk1 12) ⟨known1,trivial⟩
 ·intro f fn h hb
  obtain ⟨c,hc⟩:=Option.isSome_iff_exists.1 hb
  exact (fn_ok h hc).1
 ·exact fun f fn c h hb=>(fn_ok h hb).2
set_option maxRecDepth 100000
theorem hC:∀ t Y,C.ty t = some Y → tyOf C.P t = some Y:=by
 intro t Y h
 dsimp only [C,C0] at h ⊢
 exact h
theorem fuelC:C.fuel = 18446744073709551616:=by kernel_rfl
theorem big_eq:big = 4611686018427387904:=rfl
theorem within_dec {x a b:Int}:Lite.within x a b = decide (a ≤ x ∧ x ≤ b):=by simp [Lite.within]
section
variable {α:Type} {p:Nat → Bool} {i len:Nat} {rt rf r:α}
theorem all_step (h:(T.ite (allFrom p i (len - i)) (.leaf rt) (.leaf rf)).run = some r) (hlt:i < len):(p i = false → some rf = some r) ∧ (p i = true → (T.ite (allFrom p (i + 1) (len - (i + 1))) (.leaf rt) (.leaf rf)).run = some r):=by
 rw [show len - i = (len - (i + 1)) + 1 by omega] at h
 simp only [allFrom] at h
 refine ⟨fun hp=>?_,fun hp=>?_⟩
 ·rw [hp,Bool.false_and] at h; exact h
 ·rw [hp,Bool.true_and] at h; exact h
theorem all_end (h:(T.ite (allFrom p i (len - i)) (.leaf rt) (.leaf rf)).run = some r) (hge:¬ i < len):some rt = some r:=by
 rw [show len - i = 0 by omega] at h
 exact h
end
section
variable {p:Nat → Bool} {i len:Nat} {ro r:Ex × List D}
end
noncomputable section
def rg (R:List (List D)) (j:Nat):Int:=ix (R.getD j []) 0
def rs (R:List (List D)) (j:Nat) (v:Int):List (List D):=R.set j [.i v]
end
theorem len_rs (R:List (List D)) (j:Nat) (v:Int):(rs R j v).length = R.length:=by simp [rs]
theorem rg_rs {R:List (List D)} {j:Nat} (hj:j < R.length) (v:Int) (i:Nat):rg (rs R j v) i = if i = j then v else rg R i:=by
 unfold rg rs
 simp only [List.getD_eq_getElem?_getD,List.getElem?_set]
 by_cases e:i = j
 ·subst e; simp [hj,ix,D.I]
 ·rw [if_neg (fun h=>e h.symm),if_neg e]
theorem rg_ge {R:List (List D)} {j:Nat} (hj:R.length ≤ j):rg R j = 0:=by
 unfold rg
 rw [List.getD_eq_getElem?_getD,List.getElem?_eq_none hj]
 rfl
theorem rg_def (R:List (List D)) (j:Nat):((R.getD j []).getD 0 default).I = rg R j:=rfl
theorem rs_def (R:List (List D)) (j:Nat) (v:Int):R.set j [.i v] = rs R j v:=rfl
theorem rg_rep {n j:Nat} {v:Int} (hj:j < n):rg (List.replicate n [.i v]) j = v:=by
 unfold rg
 rw [List.getD_eq_getElem?_getD,List.getElem?_replicate,if_pos hj]
 rfl
theorem upd2 (c:List D) (x y:D):updC c [x,y] 0 0 (List.length [K.int .i64,K.int .i64]) = [x,y]:=by simp [updC]
theorem least_of {P:Nat → Prop} (h:∃ f,P f):∃ m,P m ∧ ∀ k,k < m → ¬ P k:=by
 obtain ⟨f,hf⟩:=h
 induction f using Nat.strongRecOn with
 | _ f ih=>
   by_cases hs:∃ k,k < f ∧ P k
   ·obtain ⟨k,hk,hp⟩:=hs
    exact ih k hk hp
   ·exact ⟨f,hf,fun k hk hp=>hs ⟨k,hk,hp⟩⟩
def s45:Sig:=⟨[.k (.int .i64),.k (.int .i64),.k (.int .i64)],[(.k .bool,[])]⟩
def s51:Sig:=⟨[.agg [.k (.int .i64),.k (.int .i64),.k (.int .i64),.k (.ro [.int .i64,.int .i64])],.k (.int .i64)],[(.k (.int .i64),[])]⟩
def l51_2:LSig:=mkLS [1,2,8,9,10] [(31,[(1,.k (.int .i64)),(2,.ptr 0 4 0 0),(8,.k (.ro [.int .i64,.int .i64])),(9,.k (.int .i64)),(10,.k (.int .i64))],[.box [.k (.int .i64),.k (.int .i64),.k (.int .i64),.k (.ro [.int .i64,.int .i64])]])] [(.exit 0,[1],[(31,[(1,.k (.int .i64))],[])])]
def s123:Sig:=⟨[.k (.ro [.int .i64,.int .i64])],[(.k (.int .i64),[])]⟩
def s124:Sig:=⟨[.k (.ro [.int .i64,.int .i64]),.k (.int .i64),.k (.int .i64)],[(.k .bool,[])]⟩
def s126:SigW:=⟨[.sl 0 2,.k (.int .i64),.k (.int .i64)],[.row [.int .i64,.int .i64]],[(.tup [],[.row [.int .i64,.int .i64]])]⟩
def s131:SigW:=⟨[.ptr 0 1 0 0],[.box [.sl 1 2],.row [.int .i64,.int .i64]],[(.ifc 116 (.agg [.k (.int .i64),.k (.int .i64)]),[.box [.sl 1 2],.row [.int .i64,.int .i64]])]⟩
def s125:SigW:=⟨[.ptr 0 1 0 0,.ifc 116 (.agg [.k (.int .i64),.k (.int .i64)])],[.box [.sl 1 2],.row [.int .i64,.int .i64]],[(.tup [],[.box [.sl 2 2],.none,.row [.int .i64,.int .i64]])]⟩
def s101:SigW:=⟨[.ifc 159 (.ptr 0 1 0 0),.k (.int .i64)],[.box [.sl 1 2],.row [.int .i64,.int .i64]],[(.tup [],[.box [.sl 1 2],.row [.int .i64,.int .i64]])]⟩
def l101_0:LSig:=mkLS [0,1] [(23,[(0,.ifc 159 (.ptr 0 1 0 0)),(1,.k (.int .i64))],[.box [.sl 1 2],.row [.int .i64,.int .i64]])] [(.exit 0,[],[(23,[],[.box [.sl 1 2],.row [.int .i64,.int .i64]])])]
def s129:SigW:=⟨[.ifc 159 (.ptr 0 1 0 0),.k (.int .i64),.k (.int .i64)],[.box [.sl 1 2],.row [.int .i64,.int .i64]],[(.k .bool,[.box [.sl 1 2],.row [.int .i64,.int .i64]])]⟩
def l129_2:LSig:=mkLS [0,1,2,7] [(48,[(0,.ifc 159 (.ptr 0 1 0 0)),(1,.k (.int .i64)),(2,.k (.int .i64)),(7,.k (.int .i64))],[.box [.sl 1 2],.row [.int .i64,.int .i64]])] [(.exit 0,[1,7],[(48,[(1,.k (.int .i64)),(7,.k (.int .i64))],[.box [.sl 1 2],.row [.int .i64,.int .i64]])])]
def s93:SigW:=⟨[.ifc 159 (.ptr 0 1 0 0),.ifc 116 (.agg [.k (.int .i64),.k (.int .i64)])],[.box [.sl 1 2],.row [.int .i64,.int .i64]],[(.tup [],[.box [.sl 2 2],.none,.row [.int .i64,.int .i64]])]⟩
def s128:SigW:=⟨[.ifc 159 (.ptr 0 1 0 0)],[.box [.sl 1 2],.row [.int .i64,.int .i64]],[(.ifc 116 (.agg [.k (.int .i64),.k (.int .i64)]),[.box [.sl 1 2],.row [.int .i64,.int .i64]])]⟩
def s127:SigW:=⟨[.ptr 0 1 0 0],[.box [.sl 1 2],.row [.int .i64,.int .i64]],[(.agg [.k (.int .i64),.k (.int .i64)],[.box [.sl 1 2],.row [.int .i64,.int .i64]])]⟩
def s74:SigW:=⟨[.k (.int .i64),.k (.int .i64),.eptr [.k (.int .i64),.k (.ro [.int .i64,.int .i64,.int .i64,.ro [.int .i64,.int .i64]])]],[],[(.fn 75 [] [.eptr [.k (.int .i64),.k (.ro [.int .i64,.int .i64,.int .i64,.ro [.int .i64,.int .i64]])],.ptr 0 1 0 0,.ptr 1 1 0 0],[.box [.k (.int .i64)],.box [.k (.int .i64)]])]⟩
def s75:SigI:=⟨[.yl,.eptr [.k (.int .i64),.k (.ro [.int .i64,.int .i64,.int .i64,.ro [.int .i64,.int .i64]])],.ptr 0 1 0 0,.ptr 1 1 0 0],[.box [.k (.int .i64)],.box [.k (.int .i64)]]⟩
def y75:YS:=mkY [.agg [.k (.int .i64),.k (.int .i64)]] [] false
def l75_1:LSig:=mkLS [0,2,3,8,9,10] [(33,[(0,.yl),(2,.ptr 0 1 0 0),(3,.ptr 1 1 0 0),(8,.k (.ro [.int .i64,.int .i64,.int .i64,.ro [.int .i64,.int .i64]])),(9,.k (.int .i64)),(10,.k (.int .i64))],[.box [.k (.int .i64)],.box [.k (.int .i64)]])] [(.ret,[],[(33,[],[.box [.k (.int .i64)],.box [.k (.int .i64)]])]),(.exit 0,[],[(33,[],[.box [.k (.int .i64)],.box [.k (.int .i64)]])])]
def s73:Sig:=⟨[.k (.int .i64),.agg [.k (.int .i64),.k (.int .i64)],.fn 74 [] [.eptr [.k (.int .i64),.k (.ro [.int .i64,.int .i64,.int .i64,.ro [.int .i64,.int .i64]])]]],[(.sl 0 1,[.row [.int .i64]])]⟩
def h73_14:List Shp:=[mkShp (72,[(2,.fn 74 [] [.eptr [.k (.int .i64),.k (.ro [.int .i64,.int .i64,.int .i64,.ro [.int .i64,.int .i64]])]]),(6,.nils),(7,.ptr 0 1 0 0),(9,.ptr 1 1 0 0),(51,.fn 75 [] [.eptr [.k (.int .i64),.k (.ro [.int .i64,.int .i64,.int .i64,.ro [.int .i64,.int .i64]])],.any,.any])],[.box [.sl 2 1],.box [.ifc 159 (.ptr 3 1 0 0)],.row [.int .i64],.box [.sl 4 2],.row [.int .i64,.int .i64]])]
def l73_3:LSig:=mkLS [2,4,6,7,15,16] [(72,[(2,.fn 74 [] [.eptr [.k (.int .i64),.k (.ro [.int .i64,.int .i64,.int .i64,.ro [.int .i64,.int .i64]])]]),(4,.ptr 0 2 0 0),(6,.nils),(7,.ptr 1 1 0 0),(15,.k (.int .i64)),(16,.k (.int .i64))],[.box [.k (.int .i64),.k (.int .i64)],.box [.sl 2 1],.row [.int .i64]])] [(.exit 0,[2,4,6,7],[(72,[(2,.fn 74 [] [.eptr [.k (.int .i64),.k (.ro [.int .i64,.int .i64,.int .i64,.ro [.int .i64,.int .i64]])]]),(4,.ptr 0 2 0 0),(6,.nils),(7,.ptr 1 1 0 0)],[.box [.k (.int .i64),.k (.int .i64)],.box [.sl 2 1],.row [.int .i64]])])]
def l73_9:LSig:=mkLS [2,6,7,9] [(72,[(2,.fn 74 [] [.eptr [.k (.int .i64),.k (.ro [.int .i64,.int .i64,.int .i64,.ro [.int .i64,.int .i64]])]]),(6,.nils),(7,.ptr 0 1 0 0),(9,.ptr 1 1 0 0)],[.box [.sl 2 1],.box [.ifc 159 (.ptr 3 1 0 0)],.row [.int .i64],.box [.sl 4 2],.row [.int .i64,.int .i64]])] [(.exit 2,[7],[(72,[(7,.ptr 0 1 0 0)],[.box [.sl 1 1],.row [.int .i64]])])]
def s46:Sig:=⟨[.agg [.k (.int .i64),.k (.ro [.int .i64,.int .i64,.int .i64,.ro [.int .i64,.int .i64]])],.k (.int .i64),.k (.int .i64)],[(.sl 0 1,[.row [.int .i64]])]⟩
def l46_3:LSig:=mkLS [7,17,18,19] [(31,[(7,.sl 0 1),(17,.sl 0 1),(18,.k (.int .i64)),(19,.k (.int .i64))],[.row [.int .i64]])] [(.exit 0,[7],[(31,[(7,.sl 0 1)],[.row [.int .i64]])])]
def s47:Sig:=⟨[.k (.int .i64),.k (.int .i64),.k (.int .i64)],[(.k .bool,[])]⟩
def s48:Sig:=⟨[.k (.int .i64),.agg [.k (.int .i64),.k (.int .i64),.k (.int .i64),.k (.ro [.int .i64,.int .i64])]],[(.k .bool,[])]⟩
def l48_4:LSig:=mkLS [3,5] [(83,[(3,.ptr 0 4 0 0),(5,.k (.int .i64))],[.box [.k (.int .i64),.k (.int .i64),.k (.int .i64),.k (.ro [.int .i64,.int .i64])]])] [(.ret,[4],[(83,[(4,.k .bool)],[])]),(.exit 0,[],[(83,[],[])])]
def s15:Sig:=⟨[.agg [.k (.int .i64),.k (.ro [.int .i64,.int .i64,.int .i64,.ro [.int .i64,.int .i64]])]],[(.k .bool,[])]⟩
def l15_4:LSig:=mkLS [1,3] [(45,[(1,.ptr 0 2 0 0),(3,.k (.int .i64))],[.box [.k (.int .i64),.k (.ro [.int .i64,.int .i64,.int .i64,.ro [.int .i64,.int .i64]])]])] [(.ret,[2],[(45,[(2,.k .bool)],[])]),(.exit 0,[],[(45,[],[])])]
def s18:Sig:=⟨[.agg [.k (.int .i64),.k (.ro [.int .i64,.int .i64,.int .i64,.ro [.int .i64,.int .i64]])]],[(.k (.int .i64),[])]⟩
def l18_4:LSig:=mkLS [1,19,20,21] [(92,[(1,.ptr 0 2 0 0),(19,.k (.ro [.int .i64,.int .i64,.int .i64,.ro [.int .i64,.int .i64]])),(20,.k (.int .i64)),(21,.k (.int .i64))],[.box [.k (.int .i64),.k (.ro [.int .i64,.int .i64,.int .i64,.ro [.int .i64,.int .i64]])]])] [(.ret,[2],[(92,[(2,.k (.int .i64))],[])]),(.exit 0,[],[(92,[],[])])]
def l18_10:LSig:=mkLS [1,5,19,20,21,61,62,63] [(92,[(1,.ptr 0 2 0 0),(5,.k (.int .i64)),(19,.k (.ro [.int .i64,.int .i64,.int .i64,.ro [.int .i64,.int .i64]])),(20,.k (.int .i64)),(21,.k (.int .i64)),(61,.k (.ro [.int .i64,.int .i64])),(62,.k (.int .i64)),(63,.k (.int .i64))],[.box [.k (.int .i64),.k (.ro [.int .i64,.int .i64,.int .i64,.ro [.int .i64,.int .i64]])]])] [(.ret,[2],[(92,[(2,.k (.int .i64))],[])]),(.exit 2,[1,19,20,21],[(92,[(1,.ptr 0 2 0 0),(19,.k (.ro [.int .i64,.int .i64,.int .i64,.ro [.int .i64,.int .i64]])),(20,.k (.int .i64)),(21,.k (.int .i64))],[.box [.k (.int .i64),.k (.ro [.int .i64,.int .i64,.int .i64,.ro [.int .i64,.int .i64]])]])])]
def s19:Sig:=⟨[.agg [.k (.int .i64),.k (.ro [.int .i64,.int .i64,.int .i64,.ro [.int .i64,.int .i64]])]],[(.k .bool,[])]⟩
def l19_4:LSig:=mkLS [1,3] [(30,[(1,.ptr 0 2 0 0),(3,.k (.int .i64))],[.box [.k (.int .i64),.k (.ro [.int .i64,.int .i64,.int .i64,.ro [.int .i64,.int .i64]])]])] [(.ret,[2],[(30,[(2,.k .bool)],[])]),(.exit 0,[],[(30,[],[])])]
def s3:Sig:=⟨[.agg [.k (.int .i64),.k (.ro [.int .i64,.int .i64,.int .i64,.ro [.int .i64,.int .i64]])],.k (.int .i64),.k (.int .i64)],[(.k .bool,[])]⟩
def s78:Sig:=⟨[.k (.int .i64)],[(.k .bool,[])]⟩
def s77:Sig:=⟨[.agg [.k (.int .i64),.k (.int .i64),.k (.int .i64),.k (.int .i64)],.eptr [.k (.int .i64),.k (.ro [.int .i64,.int .i64,.int .i64,.ro [.int .i64,.int .i64]])]],[(.k .bool,[])]⟩
def s80:Sig:=⟨[.agg [.k (.int .i64),.k (.int .i64),.k (.int .i64)],.eptr [.k (.int .i64),.k (.ro [.int .i64,.int .i64,.int .i64,.ro [.int .i64,.int .i64]])]],[(.k .bool,[])]⟩
def s94:Sig:=⟨[.k (.ro [.int .i64,.int .i64,.int .i64,.int .i64]),.fn 77 [] [.eptr [.k (.int .i64),.k (.ro [.int .i64,.int .i64,.int .i64,.ro [.int .i64,.int .i64]])]]],[(.k (.int .i64),[])]⟩
def l94_2:LSig:=mkLS [0,1,7,8] [(19,[(0,.k (.ro [.int .i64,.int .i64,.int .i64,.int .i64])),(1,.fn 77 [] [.eptr [.k (.int .i64),.k (.ro [.int .i64,.int .i64,.int .i64,.ro [.int .i64,.int .i64]])]]),(7,.k (.int .i64)),(8,.k (.int .i64))],[])] [(.ret,[4],[(19,[(4,.k (.int .i64))],[])]),(.exit 0,[],[(19,[],[])])]
def s95:Sig:=⟨[.k (.ro [.int .i64,.int .i64,.int .i64]),.fn 80 [] [.eptr [.k (.int .i64),.k (.ro [.int .i64,.int .i64,.int .i64,.ro [.int .i64,.int .i64]])]]],[(.k (.int .i64),[])]⟩
def l95_2:LSig:=mkLS [0,1,7,8] [(19,[(0,.k (.ro [.int .i64,.int .i64,.int .i64])),(1,.fn 80 [] [.eptr [.k (.int .i64),.k (.ro [.int .i64,.int .i64,.int .i64,.ro [.int .i64,.int .i64]])]]),(7,.k (.int .i64)),(8,.k (.int .i64))],[])] [(.ret,[4],[(19,[(4,.k (.int .i64))],[])]),(.exit 0,[],[(19,[],[])])]
def s76:Sig:=⟨[.k (.ro [.int .i64,.int .i64,.int .i64,.int .i64]),.fn 77 [] [.eptr [.k (.int .i64),.k (.ro [.int .i64,.int .i64,.int .i64,.ro [.int .i64,.int .i64]])]]],[(.k .bool,[])]⟩
def s79:Sig:=⟨[.k (.ro [.int .i64,.int .i64,.int .i64]),.fn 80 [] [.eptr [.k (.int .i64),.k (.ro [.int .i64,.int .i64,.int .i64,.ro [.int .i64,.int .i64]])]]],[(.k .bool,[])]⟩
def s52:Sig:=⟨[.agg [.k (.int .i64),.k (.ro [.int .i64,.int .i64,.int .i64,.ro [.int .i64,.int .i64]])],.k (.ro [.int .i64,.int .i64,.int .i64,.int .i64]),.k (.int .i64),.k (.ro [.int .i64,.int .i64,.int .i64]),.k (.int .i64)],[(.k .bool,[])]⟩
def s28:Sig:=⟨[.k (.int .i64),.k (.ro [.int .i64,.int .i64,.int .i64,.int .i64])],[(.k .bool,[])]⟩
def l28_2:LSig:=mkLS [0,1,5] [(46,[(0,.k (.int .i64)),(1,.k (.ro [.int .i64,.int .i64,.int .i64,.int .i64])),(5,.k (.int .i64))],[])] [(.ret,[4],[(46,[(4,.k .bool)],[])]),(.exit 0,[],[(46,[],[])])]
def s29:Sig:=⟨[.k (.int .i64),.k (.ro [.int .i64,.int .i64,.int .i64])],[(.k .bool,[])]⟩
def l29_2:LSig:=mkLS [0,1,5] [(38,[(0,.k (.int .i64)),(1,.k (.ro [.int .i64,.int .i64,.int .i64])),(5,.k (.int .i64))],[])] [(.ret,[4],[(38,[(4,.k .bool)],[])]),(.exit 0,[1],[(38,[(1,.k (.ro [.int .i64,.int .i64,.int .i64]))],[])])]
def s106:SigI:=⟨[.yl,.ptr 0 1 0 0],[.box [.k (.ro [.int .i64,.int .i64])]]⟩
def y106:YS:=mkY [.k (.int .i64),.agg [.k (.int .i64),.k (.int .i64)]] [] false
def l106_1:LSig:=mkLS [0,1,3] [(19,[(0,.yl),(1,.ptr 0 1 0 0),(3,.k (.int .i64))],[.box [.k (.ro [.int .i64,.int .i64])]])] [(.ret,[],[(19,[],[.box [.k (.ro [.int .i64,.int .i64])]])]),(.exit 0,[],[(19,[],[.box [.k (.ro [.int .i64,.int .i64])]])])]
def s105:SigW:=⟨[.k (.ro [.int .i64,.int .i64])],[],[(.fn 106 [] [.ptr 0 1 0 0],[.box [.k (.ro [.int .i64,.int .i64])]])]⟩
def s104:Sig:=⟨[.agg [.k (.int .i64),.k (.int .i64),.k (.int .i64),.k (.ro [.int .i64,.int .i64])],.k (.int .i64)],[(.k (.int .i64),[])]⟩
def h104_3:List Shp:=[mkShp (31,[(2,.ptr 0 4 0 0),(3,.ptr 1 1 0 0),(4,.k (.int .i64)),(9,.fn 106 [] [.any])],[.box [.k (.int .i64),.k (.int .i64),.k (.int .i64),.k (.ro [.int .i64,.int .i64])],.box [.k (.int .i64)]])]
def s103:SigI:=⟨[.yl,.eptr [.k (.int .i64),.k (.ro [.int .i64,.int .i64,.int .i64,.ro [.int .i64,.int .i64]])],.ptr 0 1 0 0,.ptr 1 1 0 0],[.box [.k (.int .i64)],.box [.k (.int .i64)]]⟩
def y103:YS:=mkY [.agg [.k (.int .i64),.k (.int .i64)]] [] false
def l103_1:LSig:=mkLS [0,2,3,8,9,10] [(35,[(0,.yl),(2,.ptr 0 1 0 0),(3,.ptr 1 1 0 0),(8,.k (.ro [.int .i64,.int .i64,.int .i64,.ro [.int .i64,.int .i64]])),(9,.k (.int .i64)),(10,.k (.int .i64))],[.box [.k (.int .i64)],.box [.k (.int .i64)]])] [(.ret,[],[(35,[],[.box [.k (.int .i64)],.box [.k (.int .i64)]])]),(.exit 0,[],[(35,[],[.box [.k (.int .i64)],.box [.k (.int .i64)]])])]
def s102:SigW:=⟨[.k (.int .i64),.k (.int .i64),.eptr [.k (.int .i64),.k (.ro [.int .i64,.int .i64,.int .i64,.ro [.int .i64,.int .i64]])]],[],[(.fn 103 [] [.eptr [.k (.int .i64),.k (.ro [.int .i64,.int .i64,.int .i64,.ro [.int .i64,.int .i64]])],.ptr 0 1 0 0,.ptr 1 1 0 0],[.box [.k (.int .i64)],.box [.k (.int .i64)]])]⟩
def s1073:Sig:=⟨[.k (.int .i64),.agg [.k (.int .i64),.k (.int .i64)],.fn 102 [] [.eptr [.k (.int .i64),.k (.ro [.int .i64,.int .i64,.int .i64,.ro [.int .i64,.int .i64]])]]],[(.sl 0 1,[.row [.int .i64]])]⟩
def h1073_14:List Shp:=[mkShp (72,[(2,.fn 102 [] [.eptr [.k (.int .i64),.k (.ro [.int .i64,.int .i64,.int .i64,.ro [.int .i64,.int .i64]])]]),(6,.nils),(7,.ptr 0 1 0 0),(9,.ptr 1 1 0 0),(51,.fn 103 [] [.eptr [.k (.int .i64),.k (.ro [.int .i64,.int .i64,.int .i64,.ro [.int .i64,.int .i64]])],.any,.any])],[.box [.sl 2 1],.box [.ifc 159 (.ptr 3 1 0 0)],.row [.int .i64],.box [.sl 4 2],.row [.int .i64,.int .i64]])]
def l1073_3:LSig:=mkLS [2,4,6,7,15,16] [(72,[(2,.fn 102 [] [.eptr [.k (.int .i64),.k (.ro [.int .i64,.int .i64,.int .i64,.ro [.int .i64,.int .i64]])]]),(4,.ptr 0 2 0 0),(6,.nils),(7,.ptr 1 1 0 0),(15,.k (.int .i64)),(16,.k (.int .i64))],[.box [.k (.int .i64),.k (.int .i64)],.box [.sl 2 1],.row [.int .i64]])] [(.exit 0,[2,4,6,7],[(72,[(2,.fn 102 [] [.eptr [.k (.int .i64),.k (.ro [.int .i64,.int .i64,.int .i64,.ro [.int .i64,.int .i64]])]]),(4,.ptr 0 2 0 0),(6,.nils),(7,.ptr 1 1 0 0)],[.box [.k (.int .i64),.k (.int .i64)],.box [.sl 2 1],.row [.int .i64]])])]
def l1073_9:LSig:=mkLS [2,6,7,9] [(72,[(2,.fn 102 [] [.eptr [.k (.int .i64),.k (.ro [.int .i64,.int .i64,.int .i64,.ro [.int .i64,.int .i64]])]]),(6,.nils),(7,.ptr 0 1 0 0),(9,.ptr 1 1 0 0)],[.box [.sl 2 1],.box [.ifc 159 (.ptr 3 1 0 0)],.row [.int .i64],.box [.sl 4 2],.row [.int .i64,.int .i64]])] [(.exit 2,[7],[(72,[(7,.ptr 0 1 0 0)],[.box [.sl 1 1],.row [.int .i64]])])]
def s97:Sig:=⟨[.agg [.k (.int .i64),.k (.ro [.int .i64,.int .i64,.int .i64,.ro [.int .i64,.int .i64]])],.k (.int .i64),.k (.int .i64)],[(.sl 0 1,[.row [.int .i64]])]⟩
def l97_3:LSig:=mkLS [7,18,19] [(32,[(7,.sl 0 1),(18,.k (.int .i64)),(19,.k (.int .i64))],[.row [.int .i64]])] [(.exit 0,[7],[(32,[(7,.sl 0 1)],[.row [.int .i64]])])]
def s96:SigI:=⟨[.yl,.ptr 0 1 0 0,.ptr 1 2 0 0,.ptr 2 3 0 0,.ptr 3 1 0 0],[.box [.k (.int .i64)],.box [.k (.int .i64),.k (.ro [.int .i64,.int .i64,.int .i64,.ro [.int .i64,.int .i64]])],.box [.k (.int .i64),.k (.int .i64),.k (.int .i64)],.box [.k (.ro [.int .i64,.int .i64,.int .i64,.int .i64])]]⟩
def y96:YS:=mkY [.agg [.k (.int .i64),.k (.int .i64),.k .bool]] [] false
def l96_1:LSig:=mkLS [0,1,2,3,4,6] [(120,[(0,.yl),(1,.ptr 0 1 0 0),(2,.ptr 1 2 0 0),(3,.ptr 2 3 0 0),(4,.ptr 3 1 0 0),(6,.k (.int .i64))],[.box [.k (.int .i64)],.box [.k (.int .i64),.k (.ro [.int .i64,.int .i64,.int .i64,.ro [.int .i64,.int .i64]])],.box [.k (.int .i64),.k (.int .i64),.k (.int .i64)],.box [.k (.ro [.int .i64,.int .i64,.int .i64,.int .i64])]])] [(.exit 0,[],[(120,[],[.box [.k (.int .i64)],.box [.k (.int .i64),.k (.ro [.int .i64,.int .i64,.int .i64,.ro [.int .i64,.int .i64]])],.box [.k (.int .i64),.k (.int .i64),.k (.int .i64)],.box [.k (.ro [.int .i64,.int .i64,.int .i64,.int .i64])]])]),(.ret,[],[(120,[],[.box [.k (.int .i64)],.box [.k (.int .i64),.k (.ro [.int .i64,.int .i64,.int .i64,.ro [.int .i64,.int .i64]])],.box [.k (.int .i64),.k (.int .i64),.k (.int .i64)],.box [.k (.ro [.int .i64,.int .i64,.int .i64,.int .i64])]])])]
def l96_6:LSig:=mkLS [0,1,2,3,4,6,7,8,9,28,29,30] [(120,[(0,.yl),(1,.ptr 0 1 0 0),(2,.ptr 1 2 0 0),(3,.ptr 2 3 0 0),(4,.ptr 3 1 0 0),(6,.k (.int .i64)),(7,.sl 4 1),(8,.ptr 5 3 0 0),(9,.k (.int .i64)),(28,.k (.ro [.int .i64,.int .i64,.int .i64,.int .i64])),(29,.k (.int .i64)),(30,.k (.int .i64))],[.box [.k (.int .i64)],.box [.k (.int .i64),.k (.ro [.int .i64,.int .i64,.int .i64,.ro [.int .i64,.int .i64]])],.box [.k (.int .i64),.k (.int .i64),.k (.int .i64)],.box [.k (.ro [.int .i64,.int .i64,.int .i64,.int .i64])],.row [.int .i64],.box [.k (.int .i64),.k (.int .i64),.k .bool]])] [(.exit 2,[0,1,2,3,4,6,8,9],[(120,[(0,.yl),(1,.ptr 0 1 0 0),(2,.ptr 1 2 0 0),(3,.ptr 2 3 0 0),(4,.ptr 3 1 0 0),(6,.k (.int .i64)),(8,.ptr 4 3 0 0),(9,.k (.int .i64))],[.box [.k (.int .i64)],.box [.k (.int .i64),.k (.ro [.int .i64,.int .i64,.int .i64,.ro [.int .i64,.int .i64]])],.box [.k (.int .i64),.k (.int .i64),.k (.int .i64)],.box [.k (.ro [.int .i64,.int .i64,.int .i64,.int .i64])],.box [.k (.int .i64),.k (.int .i64),.k .bool]])])]
def s81:SigW:=⟨[.agg [.k (.int .i64),.k (.ro [.int .i64,.int .i64,.int .i64,.ro [.int .i64,.int .i64]])],.k (.ro [.int .i64,.int .i64,.int .i64,.int .i64]),.agg [.k (.int .i64),.k (.int .i64),.k (.int .i64)],.k (.int .i64)],[],[(.fn 96 [] [.ptr 0 1 0 0,.ptr 1 2 0 0,.ptr 2 3 0 0,.ptr 3 1 0 0],[.box [.k (.int .i64)],.box [.k (.int .i64),.k (.ro [.int .i64,.int .i64,.int .i64,.ro [.int .i64,.int .i64]])],.box [.k (.int .i64),.k (.int .i64),.k (.int .i64)],.box [.k (.ro [.int .i64,.int .i64,.int .i64,.int .i64])]])]⟩
def s53:Sig:=⟨[.agg [.k (.int .i64),.k (.ro [.int .i64,.int .i64,.int .i64,.ro [.int .i64,.int .i64]])],.k (.ro [.int .i64,.int .i64,.int .i64,.int .i64]),.k (.ro [.int .i64,.int .i64,.int .i64]),.k (.int .i64)],[(.nils,[]),(.sl 0 3,[.row [.int .i64,.int .i64,.int .i64]])]⟩
def h53_10:List Shp:=[mkShp (51,[(1,.k (.ro [.int .i64,.int .i64,.int .i64,.int .i64])),(3,.k (.int .i64)),(4,.ptr 0 2 0 0),(8,.nils),(9,.ptr 1 1 0 0),(10,.ptr 2 1 0 0),(12,.ptr 3 1 0 0),(14,.k (.ro [.int .i64,.int .i64,.int .i64])),(15,.k (.int .i64)),(16,.k (.int .i64)),(25,.fn 96 [] [.any,.any,.any,.any])],[.box [.k (.int .i64),.k (.ro [.int .i64,.int .i64,.int .i64,.ro [.int .i64,.int .i64]])],.box [.nils],.box [.k (.int .i64)],.box [.k .bool]]),mkShp (51,[(1,.k (.ro [.int .i64,.int .i64,.int .i64,.int .i64])),(3,.k (.int .i64)),(4,.ptr 0 2 0 0),(8,.nils),(9,.ptr 1 1 0 0),(10,.ptr 2 1 0 0),(12,.ptr 3 1 0 0),(14,.k (.ro [.int .i64,.int .i64,.int .i64])),(15,.k (.int .i64)),(16,.k (.int .i64)),(25,.fn 96 [] [.any,.any,.any,.any])],[.box [.k (.int .i64),.k (.ro [.int .i64,.int .i64,.int .i64,.ro [.int .i64,.int .i64]])],.box [.sl 4 3],.box [.k (.int .i64)],.box [.k .bool],.row [.int .i64,.int .i64,.int .i64]])]
def l53_3:LSig:=mkLS [1,3,4,8,9,14,15,16] [(51,[(1,.k (.ro [.int .i64,.int .i64,.int .i64,.int .i64])),(3,.k (.int .i64)),(4,.ptr 0 2 0 0),(8,.nils),(9,.ptr 1 1 0 0),(14,.k (.ro [.int .i64,.int .i64,.int .i64])),(15,.k (.int .i64)),(16,.k (.int .i64))],[.box [.k (.int .i64),.k (.ro [.int .i64,.int .i64,.int .i64,.ro [.int .i64,.int .i64]])],.box [.nils]]),(51,[(1,.k (.ro [.int .i64,.int .i64,.int .i64,.int .i64])),(3,.k (.int .i64)),(4,.ptr 0 2 0 0),(8,.nils),(9,.ptr 1 1 0 0),(14,.k (.ro [.int .i64,.int .i64,.int .i64])),(15,.k (.int .i64)),(16,.k (.int .i64))],[.box [.k (.int .i64),.k (.ro [.int .i64,.int .i64,.int .i64,.ro [.int .i64,.int .i64]])],.box [.sl 2 3],.row [.int .i64,.int .i64,.int .i64]])] [(.exit 0,[9],[(51,[(9,.ptr 0 1 0 0)],[.box [.nils]]),(51,[(9,.ptr 0 1 0 0)],[.box [.sl 1 3],.row [.int .i64,.int .i64,.int .i64]])])]
def s27:Sig:=⟨[.agg [.k (.int .i64),.k (.ro [.int .i64,.int .i64,.int .i64,.ro [.int .i64,.int .i64]])],.k (.ro [.int .i64,.int .i64,.int .i64,.int .i64]),.k (.ro [.int .i64,.int .i64,.int .i64]),.k (.int .i64)],[(.tup [.nils,.k (.int .i64)],[]),(.tup [.sl 0 3,.k (.int .i64)],[.row [.int .i64,.int .i64,.int .i64]])]⟩
noncomputable section
def G45 (ds:List D):T (List D):=match ds with
 | [n,a,b]=>.leaf [.b (within n.I a.I b.I)]
 | _=>.fail
def entF (l:List (List D)) (c:Int):Nat → Nat → Int → Int
 | _,0,s=>s
 | i,k + 1,s=>entF l c (i + 1) k (if s + c > ix (l.getD i []) 0 ∧ s < ix (l.getD i []) 1 then ix (l.getD i []) 1 else s)
def okC (l:List (List D)):Prop:=l.length < big ∧ ∀ j,(-1099511627776 ≤ ix (l.getD j []) 0 ∧ ix (l.getD j []) 0 ≤ 1099511627776) ∧ (-1099511627776 ≤ ix (l.getD j []) 1 ∧ ix (l.getD j []) 1 ≤ 1099511627776)
def okS (s:Int):Prop:=-1152921504606846976 ≤ s ∧ s ≤ 1152921504606846976
def okT (c:Int):Prop:=-1099511627776 ≤ c ∧ c ≤ 1099511627776
def G51 (ds:List D):T (List D):=match ds with
 | [_,_,c,l,s]=>.need (yes (okT c.I ∧ okS s.I ∧ okC l.L)) (.leaf [.i (entF l.L c.I 0 l.L.length s.I)])
 | _=>.fail
def G51_2 (ds:List D):T (Ex × List D):=match ds with
 | [s,l,m,i,_,_,c,_]=>.need (yes (okT c.I ∧ okS s.I ∧ okC l.L ∧ m.I = l.L.length ∧ 0 ≤ i.I ∧ i.I ≤ l.L.length)) (.leaf (.exit 0,[.i (entF l.L c.I i.I.toNat (l.L.length - i.I.toNat) s.I)]))
 | _=>.fail
def atR (l:List (List D)) (i:Nat):Int:=ix (l.getD i []) 1
def row2 (c:List D):List D:=[.i (ix c 0),.i (ix c 1)]
def swapR (l:List (List D)) (i j:Nat):List (List D):=(l.set i (row2 (l.getD j []))).set j (row2 (l.getD i []))
def upF:Nat → List (List D) → Nat → List (List D)
 | 0,l,_=>l
 | f + 1,l,j=>if (j - 1) / 2 = j ∨ ¬ atR l j < atR l ((j - 1) / 2) then l else upF f (swapR l ((j - 1) / 2) j) ((j - 1) / 2)
def kidR (l:List (List D)) (m i:Nat):Nat:=if 2 * i + 2 < m ∧ atR l (2 * i + 2) < atR l (2 * i + 1) then 2 * i + 2 else 2 * i + 1
def downF:Nat → List (List D) → Nat → Nat → List (List D) × Nat
 | 0,l,_,i=>(l,i)
 | f + 1,l,m,i=>if 2 * i + 1 ≥ m ∨ ¬ atR l (kidR l m i) < atR l i then (l,i) else downF f (swapR l i (kidR l m i)) m (kidR l m i)
def G123 (ds:List D):T (List D):=match ds with
 | [l]=>.leaf [.i l.L.length]
 | _=>.fail
def G124 (ds:List D):T (List D):=match ds with
 | [l,i,j]=>.need (yes ((0 ≤ i.I ∧ i.I < l.L.length) ∧ 0 ≤ j.I ∧ j.I < l.L.length)) (.leaf [.b (decide (atR l.L i.I.toNat < atR l.L j.I.toNat))])
 | _=>.fail
def G126 (ds:List D):T (List D):=match ds with
 | [n,i,j,l]=>.need (yes ((0 ≤ i.I ∧ i.I < (n.I.toNat:Int)) ∧ (0 ≤ j.I ∧ j.I < (n.I.toNat:Int)) ∧ n.I.toNat ≤ l.L.length)) (.leaf [.l (swapR l.L i.I.toNat j.I.toNat)])
 | _=>.fail
def G131 (ds:List D):T (List D):=match ds with
 | [n,l]=>.need (yes (1 ≤ n.I.toNat ∧ n.I.toNat ≤ l.L.length ∧ n.I.toNat < 1099511627776)) (.leaf [.i (ix (l.L.getD (n.I.toNat - 1) []) 0),.i (ix (l.L.getD (n.I.toNat - 1) []) 1),.i ((n.I.toNat - 1:Nat):Int),.l l.L])
 | _=>.fail
def G125 (ds:List D):T (List D):=match ds with
 | [v,t,n,l]=>.need (yes (n.I.toNat ≤ l.L.length ∧ n.I.toNat < 1099511627776)) (.leaf [.i ((n.I.toNat + 1:Nat):Int),.l (l.L.take n.I.toNat ++ [[.i v.I,.i t.I]])])
 | _=>.fail
def G101 (ds:List D):T (List D):=match ds with
 | [j,n,l]=>.need (yes (0 ≤ j.I ∧ j.I < (n.I.toNat:Int) ∧ n.I.toNat ≤ l.L.length ∧ n.I.toNat < 2199023255552)) (.leaf [.i (n.I.toNat:Int),.l (upF (j.I.toNat + 1) l.L j.I.toNat)])
 | _=>.fail
def G101_0 (ds:List D):T (Ex × List D):=match ds with
 | [j,n,l]=>.need (yes (0 ≤ j.I ∧ j.I < (n.I.toNat:Int) ∧ n.I.toNat ≤ l.L.length ∧ n.I.toNat < 2199023255552)) (.leaf (.exit 0,[.i (n.I.toNat:Int),.l (upF (j.I.toNat + 1) l.L j.I.toNat)]))
 | _=>.fail
def G129 (ds:List D):T (List D):=match ds with
 | [s, m,n,l]=>.need (yes (0 ≤ s.I ∧ s.I ≤ m.I ∧ m.I ≤ (n.I.toNat:Int) ∧ n.I.toNat ≤ l.L.length ∧ n.I.toNat < 2199023255552))
     (.leaf [.b (decide (((downF (m.I.toNat + 1) l.L m.I.toNat s.I.toNat).2:Int) > s.I)),.i (n.I.toNat:Int),.l (downF (m.I.toNat + 1) l.L m.I.toNat s.I.toNat).1])
 | _=>.fail
def G129_2 (ds:List D):T (Ex × List D):=match ds with
 | [s, m,i,n,l]=>.need (yes (0 ≤ i.I ∧ i.I ≤ m.I ∧ m.I ≤ (n.I.toNat:Int) ∧ n.I.toNat ≤ l.L.length ∧ n.I.toNat < 2199023255552))
     (.leaf (.exit 0,[.i s.I,.i ((downF (m.I.toNat + 1) l.L m.I.toNat i.I.toNat).2:Int),.i (n.I.toNat:Int),.l (downF (m.I.toNat + 1) l.L m.I.toNat i.I.toNat).1]))
 | _=>.fail
def pushR (l:List (List D)) (n:Nat) (v t:Int):List (List D):=upF (n + 1) (l.take n ++ [[.i v,.i t]]) n
def popR (l:List (List D)) (n:Nat):List (List D):=(downF n (swapR l 0 (n - 1)) (n - 1) 0).1
def G93 (ds:List D):T (List D):=match ds with
 | [v,t,n,l]=>.need (yes (n.I.toNat ≤ l.L.length ∧ n.I.toNat < 1099511627776)) (.leaf [.i ((n.I.toNat + 1:Nat):Int),.l (pushR l.L n.I.toNat v.I t.I)])
 | _=>.fail
def G128 (ds:List D):T (List D):=match ds with
 | [n, l]=>.need (yes (1 ≤ n.I.toNat ∧ n.I.toNat ≤ l.L.length ∧ n.I.toNat < 1099511627776))
     (.leaf [.i (ix ((popR l.L n.I.toNat).getD (n.I.toNat - 1) []) 0),.i (ix ((popR l.L n.I.toNat).getD (n.I.toNat - 1) []) 1),.i ((n.I.toNat - 1:Nat):Int),.l (popR l.L n.I.toNat)])
 | _=>.fail
def G127:List D → T (List D):=G128
def okR (r:List (List D)):Prop:=r.length < 1099511627776 ∧ ∀ i,i < r.length → okT (ix (r.getD i []) 2) ∧ okC (lx (r.getD i []) 3)
def entW (c:List D) (t:Int):Int:=entF (lx c 3) (ix c 2) 0 (lx c 3).length t
def nextF (r:List (List D)) (v t:Int):Nat → Nat → List (List D)
 | _,0=>[]
 | i,k + 1=>if ix (r.getD i []) 0 = v then [.i (ix (r.getD i []) 1),.i (entW (r.getD i []) t + ix (r.getD i []) 2)] :: nextF r v t (i + 1) k else nextF r v t (i + 1) k
def G74 (ds:List D):T (List D):=match ds with
 | [v,t,n,r]=>.leaf [.i n.I,.l r.L,.i v.I,.i t.I]
 | _=>.fail
def G75 (ds:List D):T (List (List D)):=match ds with
 | [_,r,v,t]=>.need (yes (okR r.L ∧ okS t.I)) (.leaf (nextF r.L v.I t.I 0 r.L.length))
 | _=>.fail
def G75_1 (q:Nat) (ds:List D):T (Ex × List D):=match ds with
 | [g, r,m,i,v,t]=>.need (yes (okR r.L ∧ okS t.I ∧ m.I = r.L.length ∧ 0 ≤ i.I ∧ i.I ≤ r.L.length ∧ g.L.length ≤ q))
     (.ite (decide (q < g.L.length + (nextF r.L v.I t.I i.I.toNat (r.L.length - i.I.toNat)).length))
      (.leaf (.ret,[.l (g.L ++ (nextF r.L v.I t.I i.I.toNat (r.L.length - i.I.toNat)).take (q + 1 - g.L.length)),.i v.I,.i t.I]))
      (.leaf (.exit 0,[.l (g.L ++ nextF r.L v.I t.I i.I.toNat (r.L.length - i.I.toNat)),.i v.I,.i t.I])))
 | _=>.fail
end
noncomputable def sp45:SpL:=[]
noncomputable def lp45:LpL:=[]
noncomputable def sw45:SwL:=[]
noncomputable def tab45:Tab:=mkTab sp45 lp45 sw45
noncomputable def sp51:SpL:=[]
noncomputable def lp51:LpL:=[(2,mkL l51_2 G51_2)]
noncomputable def sw51:SwL:=[]
noncomputable def tab51:Tab:=mkTab sp51 lp51 sw51
noncomputable def sp123:SpL:=[]
noncomputable def lp123:LpL:=[]
noncomputable def sw123:SwL:=[]
noncomputable def tab123:Tab:=mkTab sp123 lp123 sw123
noncomputable def sp124:SpL:=[]
noncomputable def lp124:LpL:=[]
noncomputable def sw124:SwL:=[]
noncomputable def tab124:Tab:=mkTab sp124 lp124 sw124
noncomputable def sp126:SpL:=[]
noncomputable def lp126:LpL:=[]
noncomputable def sw126:SwL:=[]
noncomputable def tab126:Tab:=mkTab sp126 lp126 sw126
noncomputable def sp131:SpL:=[]
noncomputable def lp131:LpL:=[]
noncomputable def sw131:SwL:=[]
noncomputable def tab131:Tab:=mkTab sp131 lp131 sw131
noncomputable def sp125:SpL:=[]
noncomputable def lp125:LpL:=[]
noncomputable def sw125:SwL:=[]
noncomputable def tab125:Tab:=mkTab sp125 lp125 sw125
noncomputable def sp101:SpL:=[(124,mkF s124 G124)]
noncomputable def lp101:LpL:=[(0,mkLK 2 l101_0 G101_0)]
noncomputable def sw101:SwL:=[(126,mkFW s126 G126)]
noncomputable def tab101:Tab:=mkTab sp101 lp101 sw101
noncomputable def sp129:SpL:=[(124,mkF s124 G124)]
noncomputable def lp129:LpL:=[(2,mkLK 2 l129_2 G129_2)]
noncomputable def sw129:SwL:=[(126,mkFW s126 G126)]
noncomputable def tab129:Tab:=mkTab sp129 lp129 sw129
noncomputable def sp93:SpL:=[(123,mkF s123 G123)]
noncomputable def lp93:LpL:=[]
noncomputable def sw93:SwL:=[(101,mkFW s101 G101),(125,mkFW s125 G125)]
noncomputable def tab93:Tab:=mkTab sp93 lp93 sw93
noncomputable def sp128:SpL:=[(123,mkF s123 G123)]
noncomputable def lp128:LpL:=[]
noncomputable def sw128:SwL:=[(129,mkFW s129 G129),(126,mkFW s126 G126),(131,mkFW s131 G131)]
noncomputable def tab128:Tab:=mkTab sp128 lp128 sw128
noncomputable def sp127:SpL:=[]
noncomputable def lp127:LpL:=[]
noncomputable def sw127:SwL:=[(128,mkFW s128 G128)]
noncomputable def tab127:Tab:=mkTab sp127 lp127 sw127
noncomputable def sp74:SpL:=[]
noncomputable def lp74:LpL:=[]
noncomputable def sw74:SwL:=[]
noncomputable def tab74:Tab:=mkTab sp74 lp74 sw74
noncomputable def sp75:SpL:=[(51,mkF s51 G51)]
noncomputable def lp75 (q:Nat):LpL:=[(1,mkLY 2 l75_1 (G75_1 q))]
noncomputable def sw75:SwL:=[]
noncomputable def tab75 (q:Nat):Tab:=mkTabY sp75 (lp75 q) sw75 y75 q
set_option linter.unusedVariables false
set_option maxRecDepth 100000
theorem t45 (a b c:D):fnT C tab45 45 s45 [a,b,c] =
 T.ite (decide (a.I ≥ b.I)) (T.leaf [D.b (decide (a.I ≤ c.I))]) (T.leaf [D.b false]):=by kernel_rfl
theorem t51 (a b c d e:D):fnT C tab51 51 s51 [a,b,c,d,e] =
 T.need (yes (okT c.I ∧ okS e.I ∧ okC d.L ∧ (d.L.length:Int) = (d.L.length:Int) ∧ (0:Int) ≤ (0:Int) ∧ (0:Int) ≤ (d.L.length:Int))) (T.leaf [D.i (entF d.L c.I (Int.toNat (0:Int)) (d.L.length - Int.toNat (0:Int)) e.I)]):=by kernel_rfl
theorem t51_2 (a b c d e f g h:D):roundT C tab51 51 (loopOf C.P 51 2) l51_2 [a,b,c,d,e,f,g,h] =
 T.ite (decide (d.I < c.I)) (T.need (decide ((0:Int) ≤ d.I ∧ d.I < (b.L.length:Int))) (T.ite (decide (IntKind.i64.wrap (a.I + g.I) > D.I (List.getD (List.getD b.L d.I.toNat []) 0 default))) (T.ite (decide (a.I < D.I (List.getD (List.getD b.L d.I.toNat []) (0 + 1) default))) (T.leaf (Rd.again [D.i (D.I (List.getD (List.getD b.L d.I.toNat []) (0 + 1) default)),D.l b.L,D.i c.I,D.i (IntKind.i64.wrap (d.I + (1:Int))),D.i e.I,D.i f.I,D.i g.I,D.l h.L])) (T.leaf (Rd.again [D.i a.I,D.l b.L,D.i c.I,D.i (IntKind.i64.wrap (d.I + (1:Int))),D.i e.I,D.i f.I,D.i g.I,D.l h.L]))) (T.leaf (Rd.again [D.i a.I,D.l b.L,D.i c.I,D.i (IntKind.i64.wrap (d.I + (1:Int))),D.i e.I,D.i f.I,D.i g.I,D.l h.L])))) (T.leaf (Rd.out (Ex.exit 0) [D.i a.I])):=by kernel_rfl
theorem t123 (a:D):fnT C tab123 123 s123 [a] =
 T.leaf [D.i (a.L.length:Int)]:=by kernel_rfl
theorem t124 (a b c:D):fnT C tab124 124 s124 [a,b,c] =
 T.need (decide ((0:Int) ≤ b.I ∧ b.I < (a.L.length:Int))) (T.need (decide ((0:Int) ≤ c.I ∧ c.I < (a.L.length:Int))) (T.leaf [D.b (decide (D.I (List.getD (List.getD a.L b.I.toNat []) (0 + 1) default) < D.I (List.getD (List.getD a.L c.I.toNat []) (0 + 1) default)))])):=by kernel_rfl
theorem t126 (a b c d:D):fnTW C tab126 126 s126 [a,b,c,d] =
 T.need (decide ((0:Int) ≤ c.I ∧ c.I < (a.I.toNat:Int))) (T.need (decide (c.I.toNat < d.L.length)) (T.need (decide ((0:Int) ≤ b.I ∧ b.I < (a.I.toNat:Int))) (T.need (decide (b.I.toNat < d.L.length)) (T.need (decide ((0:Int) ≤ b.I ∧ b.I < (a.I.toNat:Int))) (T.need (decide (b.I.toNat < d.L.length)) (T.need (decide ((0:Int) ≤ c.I ∧ c.I < (a.I.toNat:Int))) (T.need (decide (c.I.toNat < List.length (List.set d.L b.I.toNat (updC (List.getD d.L b.I.toNat []) [D.i (D.I (List.getD (List.getD d.L c.I.toNat []) 0 default)),D.i (D.I (List.getD (List.getD d.L c.I.toNat []) (0 + 1) default))] 0 0 (List.length [K.int IntKind.i64,K.int IntKind.i64]))))) (T.leaf [D.l (List.set (List.set d.L b.I.toNat (updC (List.getD d.L b.I.toNat []) [D.i (D.I (List.getD (List.getD d.L c.I.toNat []) 0 default)),D.i (D.I (List.getD (List.getD d.L c.I.toNat []) (0 + 1) default))] 0 0 (List.length [K.int IntKind.i64,K.int IntKind.i64]))) c.I.toNat (updC (List.getD (List.set d.L b.I.toNat (updC (List.getD d.L b.I.toNat []) [D.i (D.I (List.getD (List.getD d.L c.I.toNat []) 0 default)),D.i (D.I (List.getD (List.getD d.L c.I.toNat []) (0 + 1) default))] 0 0 (List.length [K.int IntKind.i64,K.int IntKind.i64]))) c.I.toNat []) [D.i (D.I (List.getD (List.getD d.L b.I.toNat []) 0 default)),D.i (D.I (List.getD (List.getD d.L b.I.toNat []) (0 + 1) default))] 0 0 (List.length [K.int IntKind.i64,K.int IntKind.i64])))])))))))):=by kernel_rfl
theorem t131 (a b:D):fnTW C tab131 131 s131 [a,b] =
 T.need (decide ((0:Int) ≤ IntKind.i64.wrap ((a.I.toNat:Int) - (1:Int)) ∧ IntKind.i64.wrap ((a.I.toNat:Int) - (1:Int)) < (a.I.toNat:Int))) (T.need (decide (Int.toNat (IntKind.i64.wrap ((a.I.toNat:Int) - (1:Int))) < b.L.length)) (T.need (decide ((0:Int) ≤ IntKind.i64.wrap ((a.I.toNat:Int) - (1:Int)) ∧ IntKind.i64.wrap ((a.I.toNat:Int) - (1:Int)) ≤ (a.I.toNat:Int))) (T.leaf [D.i (D.I (List.getD (List.getD b.L (Int.toNat (IntKind.i64.wrap ((a.I.toNat:Int) - (1:Int)))) []) 0 default)),D.i (D.I (List.getD (List.getD b.L (Int.toNat (IntKind.i64.wrap ((a.I.toNat:Int) - (1:Int)))) []) (0 + 1) default)),D.i (↑(Int.toNat (IntKind.i64.wrap ((a.I.toNat:Int) - (1:Int)))):Int),D.l b.L]))):=by kernel_rfl
theorem t125 (a b c d:D):fnTW C tab125 125 s125 [a,b,c,d] =
 T.need true (T.ite false T.fail (T.need (decide (c.I.toNat ≤ d.L.length ∧ c.I.toNat + List.length (List.take (List.length [[D.i a.I,D.i b.I]]) [[D.i a.I,D.i b.I]]) ≤ 2 ^ 62 ∧ (c.I.toNat + List.length (List.take (List.length [[D.i a.I,D.i b.I]]) [[D.i a.I,D.i b.I]])) * Try.prog.types[116].bytes ≤ 2 ^ 47)) (T.leaf [D.i (↑(c.I.toNat + List.length (List.take (List.length [[D.i a.I,D.i b.I]]) [[D.i a.I,D.i b.I]])):Int),D.l (List.take c.I.toNat d.L ++ List.take (List.length [[D.i a.I,D.i b.I]]) [[D.i a.I,D.i b.I]])]))):=by kernel_rfl
theorem t101 (a b c:D):fnTW C tab101 101 s101 [a,b,c] =
 T.need (yes ((0:Int) ≤ a.I ∧ a.I < (↑(Int.toNat (b.I.toNat:Int)):Int) ∧ Int.toNat (b.I.toNat:Int) ≤ c.L.length ∧ Int.toNat (b.I.toNat:Int) < 2199023255552)) (T.leaf [D.i (↑(Int.toNat (↑(Int.toNat (b.I.toNat:Int)):Int)):Int),D.l (upF (a.I.toNat + 1) c.L a.I.toNat)]):=by kernel_rfl
theorem t101_0 (a b c:D):roundTK C tab101 101 (loopOf C.P 101 0) 2 l101_0 [a,b,c] =
 T.need true (T.ite (IntKind.i64.wrap (Int.tdiv (IntKind.i64.wrap (a.I - (1:Int))) (2:Int)) == a.I) (T.leaf (Rd.out (Ex.exit 0) [D.i (b.I.toNat:Int),D.l c.L])) (T.need (decide (b.I.toNat ≤ c.L.length)) (T.need (yes (((0:Int) ≤ a.I ∧ a.I < (↑(List.length (List.take b.I.toNat c.L)):Int)) ∧ (0:Int) ≤ IntKind.i64.wrap (Int.tdiv (IntKind.i64.wrap (a.I - (1:Int))) (2:Int)) ∧ IntKind.i64.wrap (Int.tdiv (IntKind.i64.wrap (a.I - (1:Int))) (2:Int)) < (↑(List.length (List.take b.I.toNat c.L)):Int))) (T.ite (!decide (atR (List.take b.I.toNat c.L) a.I.toNat < atR (List.take b.I.toNat c.L) (Int.toNat (IntKind.i64.wrap (Int.tdiv (IntKind.i64.wrap (a.I - (1:Int))) (2:Int)))))) (T.leaf (Rd.out (Ex.exit 0) [D.i (b.I.toNat:Int),D.l c.L])) (T.need (yes (((0:Int) ≤ IntKind.i64.wrap (Int.tdiv (IntKind.i64.wrap (a.I - (1:Int))) (2:Int)) ∧ IntKind.i64.wrap (Int.tdiv (IntKind.i64.wrap (a.I - (1:Int))) (2:Int)) < (↑(Int.toNat (b.I.toNat:Int)):Int)) ∧ ((0:Int) ≤ a.I ∧ a.I < (↑(Int.toNat (b.I.toNat:Int)):Int)) ∧ Int.toNat (b.I.toNat:Int) ≤ c.L.length)) (T.leaf (Rd.again [D.i (IntKind.i64.wrap (Int.tdiv (IntKind.i64.wrap (a.I - (1:Int))) (2:Int))),D.i (b.I.toNat:Int),D.l (swapR c.L (Int.toNat (IntKind.i64.wrap (Int.tdiv (IntKind.i64.wrap (a.I - (1:Int))) (2:Int)))) a.I.toNat)]))))))):=by kernel_rfl
theorem t129 (a b c d:D):fnTW C tab129 129 s129 [a,b,c,d] =
 T.need (yes ((0:Int) ≤ a.I ∧ a.I ≤ b.I ∧ b.I ≤ (↑(Int.toNat (c.I.toNat:Int)):Int) ∧ Int.toNat (c.I.toNat:Int) ≤ d.L.length ∧ Int.toNat (c.I.toNat:Int) < 2199023255552)) (T.leaf [D.b (decide ((↑(downF (b.I.toNat + 1) d.L b.I.toNat a.I.toNat).snd:Int) > a.I)),D.i (↑(Int.toNat (↑(Int.toNat (c.I.toNat:Int)):Int)):Int),D.l (downF (b.I.toNat + 1) d.L b.I.toNat a.I.toNat).fst]):=by kernel_rfl
theorem t129_2 (a b c d e:D):roundTK C tab129 129 (loopOf C.P 129 2) 2 l129_2 [a,b,c,d,e] =
 T.ite (decide (IntKind.i64.wrap (IntKind.i64.wrap ((2:Int) * c.I) + (1:Int)) ≥ b.I)) (T.leaf (Rd.out (Ex.exit 0) [D.i a.I,D.i c.I,D.i (d.I.toNat:Int),D.l e.L])) (T.ite (decide (IntKind.i64.wrap (IntKind.i64.wrap ((2:Int) * c.I) + (1:Int)) < (0:Int))) (T.leaf (Rd.out (Ex.exit 0) [D.i a.I,D.i c.I,D.i (d.I.toNat:Int),D.l e.L])) (T.ite (decide (IntKind.i64.wrap (IntKind.i64.wrap (IntKind.i64.wrap ((2:Int) * c.I) + (1:Int)) + (1:Int)) < b.I)) (T.need (decide (d.I.toNat ≤ e.L.length)) (T.need (yes (((0:Int) ≤ IntKind.i64.wrap (IntKind.i64.wrap (IntKind.i64.wrap ((2:Int) * c.I) + (1:Int)) + (1:Int)) ∧ IntKind.i64.wrap (IntKind.i64.wrap (IntKind.i64.wrap ((2:Int) * c.I) + (1:Int)) + (1:Int)) < (↑(List.length (List.take d.I.toNat e.L)):Int)) ∧ (0:Int) ≤ IntKind.i64.wrap (IntKind.i64.wrap ((2:Int) * c.I) + (1:Int)) ∧ IntKind.i64.wrap (IntKind.i64.wrap ((2:Int) * c.I) + (1:Int)) < (↑(List.length (List.take d.I.toNat e.L)):Int))) (T.ite (decide (atR (List.take d.I.toNat e.L) (Int.toNat (IntKind.i64.wrap (IntKind.i64.wrap (IntKind.i64.wrap ((2:Int) * c.I) + (1:Int)) + (1:Int)))) < atR (List.take d.I.toNat e.L) (Int.toNat (IntKind.i64.wrap (IntKind.i64.wrap ((2:Int) * c.I) + (1:Int)))))) (T.need (decide (d.I.toNat ≤ e.L.length)) (T.need (yes (((0:Int) ≤ IntKind.i64.wrap (IntKind.i64.wrap (IntKind.i64.wrap ((2:Int) * c.I) + (1:Int)) + (1:Int)) ∧ IntKind.i64.wrap (IntKind.i64.wrap (IntKind.i64.wrap ((2:Int) * c.I) + (1:Int)) + (1:Int)) < (↑(List.length (List.take d.I.toNat e.L)):Int)) ∧ (0:Int) ≤ c.I ∧ c.I < (↑(List.length (List.take d.I.toNat e.L)):Int))) (T.ite (!decide (atR (List.take d.I.toNat e.L) (Int.toNat (IntKind.i64.wrap (IntKind.i64.wrap (IntKind.i64.wrap ((2:Int) * c.I) + (1:Int)) + (1:Int)))) < atR (List.take d.I.toNat e.L) c.I.toNat)) (T.leaf (Rd.out (Ex.exit 0) [D.i a.I,D.i c.I,D.i (d.I.toNat:Int),D.l e.L])) (T.need (yes (((0:Int) ≤ c.I ∧ c.I < (↑(Int.toNat (d.I.toNat:Int)):Int)) ∧ ((0:Int) ≤ IntKind.i64.wrap (IntKind.i64.wrap (IntKind.i64.wrap ((2:Int) * c.I) + (1:Int)) + (1:Int)) ∧ IntKind.i64.wrap (IntKind.i64.wrap (IntKind.i64.wrap ((2:Int) * c.I) + (1:Int)) + (1:Int)) < (↑(Int.toNat (d.I.toNat:Int)):Int)) ∧ Int.toNat (d.I.toNat:Int) ≤ e.L.length)) (T.leaf (Rd.again [D.i a.I,D.i b.I,D.i (IntKind.i64.wrap (IntKind.i64.wrap (IntKind.i64.wrap ((2:Int) * c.I) + (1:Int)) + (1:Int))),D.i (d.I.toNat:Int),D.l (swapR e.L c.I.toNat (Int.toNat (IntKind.i64.wrap (IntKind.i64.wrap (IntKind.i64.wrap ((2:Int) * c.I) + (1:Int)) + (1:Int)))))])))))) (T.need (decide (d.I.toNat ≤ e.L.length)) (T.need (yes (((0:Int) ≤ IntKind.i64.wrap (IntKind.i64.wrap ((2:Int) * c.I) + (1:Int)) ∧ IntKind.i64.wrap (IntKind.i64.wrap ((2:Int) * c.I) + (1:Int)) < (↑(List.length (List.take d.I.toNat e.L)):Int)) ∧ (0:Int) ≤ c.I ∧ c.I < (↑(List.length (List.take d.I.toNat e.L)):Int))) (T.ite (!decide (atR (List.take d.I.toNat e.L) (Int.toNat (IntKind.i64.wrap (IntKind.i64.wrap ((2:Int) * c.I) + (1:Int)))) < atR (List.take d.I.toNat e.L) c.I.toNat)) (T.leaf (Rd.out (Ex.exit 0) [D.i a.I,D.i c.I,D.i (d.I.toNat:Int),D.l e.L])) (T.need (yes (((0:Int) ≤ c.I ∧ c.I < (↑(Int.toNat (d.I.toNat:Int)):Int)) ∧ ((0:Int) ≤ IntKind.i64.wrap (IntKind.i64.wrap ((2:Int) * c.I) + (1:Int)) ∧ IntKind.i64.wrap (IntKind.i64.wrap ((2:Int) * c.I) + (1:Int)) < (↑(Int.toNat (d.I.toNat:Int)):Int)) ∧ Int.toNat (d.I.toNat:Int) ≤ e.L.length)) (T.leaf (Rd.again [D.i a.I,D.i b.I,D.i (IntKind.i64.wrap (IntKind.i64.wrap ((2:Int) * c.I) + (1:Int))),D.i (d.I.toNat:Int),D.l (swapR e.L c.I.toNat (Int.toNat (IntKind.i64.wrap (IntKind.i64.wrap ((2:Int) * c.I) + (1:Int)))))]))))))))) (T.need (decide (d.I.toNat ≤ e.L.length)) (T.need (yes (((0:Int) ≤ IntKind.i64.wrap (IntKind.i64.wrap ((2:Int) * c.I) + (1:Int)) ∧ IntKind.i64.wrap (IntKind.i64.wrap ((2:Int) * c.I) + (1:Int)) < (↑(List.length (List.take d.I.toNat e.L)):Int)) ∧ (0:Int) ≤ c.I ∧ c.I < (↑(List.length (List.take d.I.toNat e.L)):Int))) (T.ite (!decide (atR (List.take d.I.toNat e.L) (Int.toNat (IntKind.i64.wrap (IntKind.i64.wrap ((2:Int) * c.I) + (1:Int)))) < atR (List.take d.I.toNat e.L) c.I.toNat)) (T.leaf (Rd.out (Ex.exit 0) [D.i a.I,D.i c.I,D.i (d.I.toNat:Int),D.l e.L])) (T.need (yes (((0:Int) ≤ c.I ∧ c.I < (↑(Int.toNat (d.I.toNat:Int)):Int)) ∧ ((0:Int) ≤ IntKind.i64.wrap (IntKind.i64.wrap ((2:Int) * c.I) + (1:Int)) ∧ IntKind.i64.wrap (IntKind.i64.wrap ((2:Int) * c.I) + (1:Int)) < (↑(Int.toNat (d.I.toNat:Int)):Int)) ∧ Int.toNat (d.I.toNat:Int) ≤ e.L.length)) (T.leaf (Rd.again [D.i a.I,D.i b.I,D.i (IntKind.i64.wrap (IntKind.i64.wrap ((2:Int) * c.I) + (1:Int))),D.i (d.I.toNat:Int),D.l (swapR e.L c.I.toNat (Int.toNat (IntKind.i64.wrap (IntKind.i64.wrap ((2:Int) * c.I) + (1:Int)))))])))))))):=by kernel_rfl
theorem t93 (a b c d:D):fnTW C tab93 93 s93 [a,b,c,d] =
 T.need (yes (Int.toNat (c.I.toNat:Int) ≤ d.L.length ∧ Int.toNat (c.I.toNat:Int) < 1099511627776)) (T.need (decide (Int.toNat (↑(Int.toNat (c.I.toNat:Int) + 1):Int) ≤ List.length (List.take (Int.toNat (c.I.toNat:Int)) d.L ++ [[D.i a.I,D.i b.I]]))) (T.need (yes ((0:Int) ≤ IntKind.i64.wrap ((↑(List.length (List.take (Int.toNat (↑(Int.toNat (c.I.toNat:Int) + 1):Int)) (List.take (Int.toNat (c.I.toNat:Int)) d.L ++ [[D.i a.I,D.i b.I]]))):Int) - (1:Int)) ∧ IntKind.i64.wrap ((↑(List.length (List.take (Int.toNat (↑(Int.toNat (c.I.toNat:Int) + 1):Int)) (List.take (Int.toNat (c.I.toNat:Int)) d.L ++ [[D.i a.I,D.i b.I]]))):Int) - (1:Int)) < (↑(Int.toNat (↑(Int.toNat (↑(Int.toNat (c.I.toNat:Int) + 1):Int)):Int)):Int) ∧ Int.toNat (↑(Int.toNat (↑(Int.toNat (c.I.toNat:Int) + 1):Int)):Int) ≤ List.length (List.take (Int.toNat (c.I.toNat:Int)) d.L ++ [[D.i a.I,D.i b.I]]) ∧ Int.toNat (↑(Int.toNat (↑(Int.toNat (c.I.toNat:Int) + 1):Int)):Int) < 2199023255552)) (T.leaf [D.i (↑(Int.toNat (↑(Int.toNat (↑(Int.toNat (↑(Int.toNat (c.I.toNat:Int) + 1):Int)):Int)):Int)):Int),D.l (upF (Int.toNat (IntKind.i64.wrap ((↑(List.length (List.take (Int.toNat (↑(Int.toNat (c.I.toNat:Int) + 1):Int)) (List.take (Int.toNat (c.I.toNat:Int)) d.L ++ [[D.i a.I,D.i b.I]]))):Int) - (1:Int))) + 1) (List.take (Int.toNat (c.I.toNat:Int)) d.L ++ [[D.i a.I,D.i b.I]]) (Int.toNat (IntKind.i64.wrap ((↑(List.length (List.take (Int.toNat (↑(Int.toNat (c.I.toNat:Int) + 1):Int)) (List.take (Int.toNat (c.I.toNat:Int)) d.L ++ [[D.i a.I,D.i b.I]]))):Int) - (1:Int)))))]))):=by kernel_rfl
theorem t128 (a b:D):fnTW C tab128 128 s128 [a,b] =
 T.need (decide (a.I.toNat ≤ b.L.length)) (T.need (yes (((0:Int) ≤ (0:Int) ∧ (0:Int) < (↑(Int.toNat (a.I.toNat:Int)):Int)) ∧ ((0:Int) ≤ IntKind.i64.wrap ((↑(List.length (List.take a.I.toNat b.L)):Int) - (1:Int)) ∧ IntKind.i64.wrap ((↑(List.length (List.take a.I.toNat b.L)):Int) - (1:Int)) < (↑(Int.toNat (a.I.toNat:Int)):Int)) ∧ Int.toNat (a.I.toNat:Int) ≤ b.L.length)) (T.need (yes ((0:Int) ≤ (0:Int) ∧ (0:Int) ≤ IntKind.i64.wrap ((↑(List.length (List.take a.I.toNat b.L)):Int) - (1:Int)) ∧ IntKind.i64.wrap ((↑(List.length (List.take a.I.toNat b.L)):Int) - (1:Int)) ≤ (↑(Int.toNat (a.I.toNat:Int)):Int) ∧ Int.toNat (a.I.toNat:Int) ≤ List.length (swapR b.L (Int.toNat (0:Int)) (Int.toNat (IntKind.i64.wrap ((↑(List.length (List.take a.I.toNat b.L)):Int) - (1:Int))))) ∧ Int.toNat (a.I.toNat:Int) < 2199023255552)) (T.need (yes (1 ≤ Int.toNat (↑(Int.toNat (↑(Int.toNat (a.I.toNat:Int)):Int)):Int) ∧ Int.toNat (↑(Int.toNat (↑(Int.toNat (a.I.toNat:Int)):Int)):Int) ≤ List.length (downF (Int.toNat (IntKind.i64.wrap ((↑(List.length (List.take a.I.toNat b.L)):Int) - (1:Int))) + 1) (swapR b.L (Int.toNat (0:Int)) (Int.toNat (IntKind.i64.wrap ((↑(List.length (List.take a.I.toNat b.L)):Int) - (1:Int))))) (Int.toNat (IntKind.i64.wrap ((↑(List.length (List.take a.I.toNat b.L)):Int) - (1:Int)))) (Int.toNat (0:Int))).fst ∧ Int.toNat (↑(Int.toNat (↑(Int.toNat (a.I.toNat:Int)):Int)):Int) < 1099511627776)) (T.leaf [D.i (ix (List.getD (downF (Int.toNat (IntKind.i64.wrap ((↑(List.length (List.take a.I.toNat b.L)):Int) - (1:Int))) + 1) (swapR b.L (Int.toNat (0:Int)) (Int.toNat (IntKind.i64.wrap ((↑(List.length (List.take a.I.toNat b.L)):Int) - (1:Int))))) (Int.toNat (IntKind.i64.wrap ((↑(List.length (List.take a.I.toNat b.L)):Int) - (1:Int)))) (Int.toNat (0:Int))).fst (Int.toNat (↑(Int.toNat (↑(Int.toNat (a.I.toNat:Int)):Int)):Int) - 1) []) 0),D.i (ix (List.getD (downF (Int.toNat (IntKind.i64.wrap ((↑(List.length (List.take a.I.toNat b.L)):Int) - (1:Int))) + 1) (swapR b.L (Int.toNat (0:Int)) (Int.toNat (IntKind.i64.wrap ((↑(List.length (List.take a.I.toNat b.L)):Int) - (1:Int))))) (Int.toNat (IntKind.i64.wrap ((↑(List.length (List.take a.I.toNat b.L)):Int) - (1:Int)))) (Int.toNat (0:Int))).fst (Int.toNat (↑(Int.toNat (↑(Int.toNat (a.I.toNat:Int)):Int)):Int) - 1) []) 1),D.i (↑(Int.toNat (↑(Int.toNat (↑(Int.toNat (↑(Int.toNat (a.I.toNat:Int)):Int)):Int) - 1):Int)):Int),D.l (downF (Int.toNat (IntKind.i64.wrap ((↑(List.length (List.take a.I.toNat b.L)):Int) - (1:Int))) + 1) (swapR b.L (Int.toNat (0:Int)) (Int.toNat (IntKind.i64.wrap ((↑(List.length (List.take a.I.toNat b.L)):Int) - (1:Int))))) (Int.toNat (IntKind.i64.wrap ((↑(List.length (List.take a.I.toNat b.L)):Int) - (1:Int)))) (Int.toNat (0:Int))).fst])))):=by kernel_rfl
theorem t127 (a b:D):fnTW C tab127 127 s127 [a,b] =
 T.need (yes (1 ≤ Int.toNat (a.I.toNat:Int) ∧ Int.toNat (a.I.toNat:Int) ≤ b.L.length ∧ Int.toNat (a.I.toNat:Int) < 1099511627776)) (T.leaf [D.i (ix (List.getD (popR b.L (Int.toNat (a.I.toNat:Int))) (Int.toNat (a.I.toNat:Int) - 1) []) 0),D.i (ix (List.getD (popR b.L (Int.toNat (a.I.toNat:Int))) (Int.toNat (a.I.toNat:Int) - 1) []) 1),D.i (↑(Int.toNat (↑(Int.toNat (a.I.toNat:Int) - 1):Int)):Int),D.l (popR b.L (Int.toNat (a.I.toNat:Int)))]):=by kernel_rfl
theorem t74 (a b c d:D):fnTW C tab74 74 s74 [a,b,c,d] =
 T.leaf [D.i c.I,D.l d.L,D.i a.I,D.i b.I]:=by kernel_rfl
theorem t75 (q:Nat) (a b c d:D):fnTY C (tab75 q) 75 s75 [a,b,c,d] =
 T.need (yes (okR b.L ∧ okS d.I ∧ (b.L.length:Int) = (b.L.length:Int) ∧ (0:Int) ≤ (0:Int) ∧ (0:Int) ≤ (b.L.length:Int) ∧ List.length ([]:List (List D)) ≤ q)) (T.ite (decide (q < List.length ([]:List (List D)) + List.length (nextF b.L c.I d.I (Int.toNat (0:Int)) (b.L.length - Int.toNat (0:Int))))) (T.leaf ([] ++ List.take (q + 1 - List.length ([]:List (List D))) (nextF b.L c.I d.I (Int.toNat (0:Int)) (b.L.length - Int.toNat (0:Int))))) (T.leaf ([] ++ nextF b.L c.I d.I (Int.toNat (0:Int)) (b.L.length - Int.toNat (0:Int))))):=by kernel_rfl
theorem t75_1 (q:Nat) (a b c d e f:D):roundTY C (tab75 q) 75 (loopOf C.P 75 1) 2 l75_1 [a,b,c,d,e,f] =
 T.ite (decide (d.I < c.I)) (T.need (decide ((0:Int) ≤ d.I ∧ d.I < (b.L.length:Int))) (T.ite (D.I (List.getD (List.getD b.L d.I.toNat []) 0 default) == e.I) (T.need (yes (okT (D.I (List.getD (List.getD b.L d.I.toNat []) (0 + 1 + 1) default)) ∧ okS f.I ∧ okC (D.L (List.getD (List.getD b.L d.I.toNat []) (0 + 1 + 1 + 1) default)))) (T.ite (!!a.L.length == (tab75 q).q) (T.leaf (Rd.out Ex.ret [D.l (a.L ++ [[D.i (D.I (List.getD (List.getD b.L d.I.toNat []) (0 + 1) default))] ++ ([D.i (IntKind.i64.wrap (entF (D.L (List.getD (List.getD b.L d.I.toNat []) (0 + 1 + 1 + 1) default)) (D.I (List.getD (List.getD b.L d.I.toNat []) (0 + 1 + 1) default)) 0 (List.length (D.L (List.getD (List.getD b.L d.I.toNat []) (0 + 1 + 1 + 1) default))) f.I + D.I (List.getD (List.getD b.L d.I.toNat []) (0 + 1 + 1) default)))] ++ []) ++ [] ++ []]),D.i e.I,D.i f.I])) (T.leaf (Rd.again [D.l (a.L ++ [[D.i (D.I (List.getD (List.getD b.L d.I.toNat []) (0 + 1) default))] ++ ([D.i (IntKind.i64.wrap (entF (D.L (List.getD (List.getD b.L d.I.toNat []) (0 + 1 + 1 + 1) default)) (D.I (List.getD (List.getD b.L d.I.toNat []) (0 + 1 + 1) default)) 0 (List.length (D.L (List.getD (List.getD b.L d.I.toNat []) (0 + 1 + 1 + 1) default))) f.I + D.I (List.getD (List.getD b.L d.I.toNat []) (0 + 1 + 1) default)))] ++ []) ++ [] ++ []]),D.l b.L,D.i c.I,D.i (IntKind.i64.wrap (d.I + (1:Int))),D.i e.I,D.i f.I])))) (T.leaf (Rd.again [D.l a.L,D.l b.L,D.i c.I,D.i (IntKind.i64.wrap (d.I + (1:Int))),D.i e.I,D.i f.I])))) (T.leaf (Rd.out (Ex.exit 0) [D.l a.L,D.i e.I,D.i f.I])):=by kernel_rfl
set_option maxRecDepth 100000
theorem ok45 (n:Nat):FnOK C (n + 1) 45 (mkF s45 G45):=by
 refine fn_ofS hC (sp:=sp45) (lp:=lp45) (sw:=sw45) trivial trivial (by kernel_rfl) [] (by kernel_rfl) rfl (fun k hk=>by cases hk) fun ds r h=>?_
 unfold G45 at h
 split at h
 ·rename_i a b c
  cases h
  refine (congrArg T.run (t45 a b c)).trans (go_if (fun h1=>?_) fun h1=>?_)
  ·rw [within_dec]
   simp only [run_leaf,show (b.I ≤ a.I ∧ a.I ≤ c.I) ↔ a.I ≤ c.I from ⟨fun h=>h.2,fun h=>⟨h1,h⟩⟩]
  ·rw [within_dec,decide_eq_false (fun h=>h1 h.1)]
   rfl
 ·cases h
theorem entF_step {l:List (List D)} {c s:Int} {j:Nat} (hj:j < l.length):entF l c j (l.length - j) s = entF l c (j + 1) (l.length - (j + 1)) (if s + c > ix (l.getD j []) 0 ∧ s < ix (l.getD j []) 1 then ix (l.getD j []) 1 else s):=by
 rw [show l.length - j = (l.length - (j + 1)) + 1 by omega]
 rfl
theorem okS_of {l:List (List D)} {j:Nat} (h:okC l):okS (ix (l.getD j []) 1):=by
 have:=h.2 j
 unfold okS
 omega
theorem ok51_2 (n:Nat):LoopSim C n 51 (loopOf C.P 51 2) (mkL l51_2 G51_2):=by
 refine loop_ofK hC (sp:=sp51) (lp:=lp51) (sw:=sw51) trivial trivial 0 [] (by kernel_rfl) rfl (fun k hk=>by cases hk) (by kernel_rfl) (fun ds=>((ds.getD 2 default).I - (ds.getD 3 default).I).toNat) fun ds rr h=>?_
 unfold G51_2 at h
 split at h
 ·rename_i s l m i a b c l2
  obtain ⟨hp,h⟩:=need_some h
  rw [yes_iff] at hp
  obtain ⟨hc,hs,hl,hm,hi0,hi1⟩:=hp
  have hb:=big_eq
  have hll:=hl.1
  refine ⟨by rw [fuelC]; simp; omega,?_⟩
  rw [show roundTK C (mkTab sp51 lp51 sw51) 51 (loopOf C.P 51 2) 0 l51_2 [s,l,m,i,a,b,c,l2] = _ from t51_2 s l m i a b c l2]
  obtain ⟨j,hj⟩:∃ j:Nat,i.I = j:=⟨i.I.toNat,by omega⟩
  simp only [hj,hm,Int.toNat_natCast,ix_def] at h hi0 hi1 ⊢
  have hcj:=hl.2 j
  unfold okS at hs
  unfold okT at hc
  refine rd_if (fun hlt=>?_) fun hge=>?_
  ·rw [entF_step (by omega)] at h
   rw [wrap_id (by omega) (by omega),wrap_succ (by omega)]
   refine rd_dec (by omega) (rd_if (fun c1=>rd_if (fun c2=>?_) fun c2=>?_) fun c1=>?_)
   ·rw [if_pos ⟨c1,c2⟩] at h
    refine rd_again ((need_yes ⟨hc,okS_of hl,hl,by simp only [I_i,L_l],by simp only [I_i]; omega,by simp only [I_i,L_l]; omega⟩).trans ?_) ?_
    ·exact h
    ·show ((l.L.length:Int) - ((j + 1:Nat):Int)).toNat < (m.I - i.I).toNat
     rw [hj,hm]; omega
   ·rw [if_neg (fun h=>c2 h.2)] at h
    refine rd_again ((need_yes ⟨hc,hs,hl,by simp only [I_i,L_l],by simp only [I_i]; omega,by simp only [I_i,L_l]; omega⟩).trans ?_) ?_
    ·exact h
    ·show ((l.L.length:Int) - ((j + 1:Nat):Int)).toNat < (m.I - i.I).toNat
     rw [hj,hm]; omega
   ·rw [if_neg (fun h=>c1 h.1)] at h
    refine rd_again ((need_yes ⟨hc,hs,hl,by simp only [I_i,L_l],by simp only [I_i]; omega,by simp only [I_i,L_l]; omega⟩).trans ?_) ?_
    ·exact h
    ·show ((l.L.length:Int) - ((j + 1:Nat):Int)).toNat < (m.I - i.I).toNat
     rw [hj,hm]; omega
  ·rw [show l.L.length - j = 0 by omega] at h
   exact rd_out h
 ·cases h
theorem ok51 (n:Nat):FnOK C (n + 1) 51 (mkF s51 G51):=by
 refine fn_ofS hC (sp:=sp51) (lp:=lp51) (sw:=sw51) trivial trivial (by kernel_rfl) [2] (by kernel_rfl) (by kernel_rfl) (fun k hk L hL=>by
  simp at hk; subst hk; cases hL; exact ok51_2 n) fun ds r h=>?_
 unfold G51 at h
 split at h
 ·rename_i a b c l s
  obtain ⟨hp,h⟩:=need_some h
  rw [yes_iff] at hp
  obtain ⟨hc,hs,hl⟩:=hp
  refine (congrArg T.run (t51 a b c l s)).trans (go_yes ⟨hc,hs,hl,rfl,by omega,by omega⟩ ?_)
  exact h
 ·cases h
theorem ok123 (n:Nat):FnOK C (n + 1) 123 (mkF s123 G123):=by
 refine fn_ofS hC (sp:=sp123) (lp:=lp123) (sw:=sw123) trivial trivial (by kernel_rfl) [] (by kernel_rfl) rfl (fun k hk=>by cases hk) fun ds r h=>?_
 unfold G123 at h
 split at h
 ·rename_i l
  exact (congrArg T.run (t123 l)).trans h
 ·cases h
theorem ok124 (n:Nat):FnOK C (n + 1) 124 (mkF s124 G124):=by
 refine fn_ofS hC (sp:=sp124) (lp:=lp124) (sw:=sw124) trivial trivial (by kernel_rfl) [] (by kernel_rfl) rfl (fun k hk=>by cases hk) fun ds r h=>?_
 unfold G124 at h
 split at h
 ·rename_i l i j
  obtain ⟨hp,h⟩:=need_some h
  rw [yes_iff] at hp
  exact (congrArg T.run (t124 l i j)).trans (go_dec hp.1 (go_dec hp.2 h))
 ·cases h
theorem len_swap (l:List (List D)) (i j:Nat):(swapR l i j).length = l.length:=by simp [swapR]
theorem getD_set {l:List (List D)} {i k:Nat} {c:List D} (hi:i < l.length):(l.set i c).getD k [] = if k = i then c else l.getD k []:=by
 simp only [List.getD_eq_getElem?_getD,List.getElem?_set]
 by_cases e:k = i
 ·subst e; simp [hi]
 ·rw [if_neg (fun h=>e h.symm),if_neg e]
theorem ok126 (n:Nat):FnOKW C (n + 1) 126 (mkFW s126 G126):=by
 refine fn_ofW hC (sp:=sp126) (lp:=lp126) (sw:=sw126) trivial trivial (by kernel_rfl) [] (by kernel_rfl) rfl (fun k hk=>by cases hk) fun ds r h=>?_
 unfold G126 at h
 split at h
 ·rename_i m i j l
  obtain ⟨hp,h⟩:=need_some h
  rw [yes_iff] at hp
  obtain ⟨h1,h2,h3⟩:=hp
  refine (congrArg T.run (t126 m i j l)).trans (go_dec h2 (go_dec (by omega) (go_dec h1 (go_dec (by omega) (go_dec h1 (go_dec (by omega) (go_dec h2 (go_dec (by rw [List.length_set]; omega) ?_))))))))
  simp only [upd2]
  exact h
 ·cases h
theorem ok131 (n:Nat):FnOKW C (n + 1) 131 (mkFW s131 G131):=by
 refine fn_ofW hC (sp:=sp131) (lp:=lp131) (sw:=sw131) trivial trivial (by kernel_rfl) [] (by kernel_rfl) rfl (fun k hk=>by cases hk) fun ds r h=>?_
 unfold G131 at h
 split at h
 ·rename_i m l
  obtain ⟨hp,h⟩:=need_some h
  rw [yes_iff] at hp
  obtain ⟨h1,h2,h3⟩:=hp
  refine (congrArg T.run (t131 m l)).trans ?_
  rw [wrap_id (by omega) (by omega),show ((m.I.toNat:Int) - 1) = ((m.I.toNat - 1:Nat):Int) by omega]
  simp only [Int.toNat_natCast]
  exact go_need (by simp; omega) (go_need (by simp; omega) (go_need (by simp; omega) h))
 ·cases h
theorem ok125 (n:Nat):FnOKW C (n + 1) 125 (mkFW s125 G125):=by
 have hby:Try.prog.types[116].bytes = 16:=by kernel_rfl
 refine fn_ofW hC (sp:=sp125) (lp:=lp125) (sw:=sw125) trivial trivial (by kernel_rfl) [] (by kernel_rfl) rfl (fun k hk=>by cases hk) fun ds r h=>?_
 unfold G125 at h
 split at h
 ·rename_i v t m l
  obtain ⟨hp,h⟩:=need_some h
  rw [yes_iff] at hp
  obtain ⟨h1,h2⟩:=hp
  refine (congrArg T.run (t125 v t m l)).trans (go_need rfl (go_false rfl (go_dec ⟨h1,by simp; omega,by rw [hby]; simp; omega⟩ h)))
 ·cases h
theorem ok74 (n:Nat):FnOKW C (n + 1) 74 (mkFW s74 G74):=by
 refine fn_ofW hC (sp:=sp74) (lp:=lp74) (sw:=sw74) trivial trivial (by kernel_rfl) [] (by kernel_rfl) rfl (fun k hk=>by cases hk) fun ds r h=>?_
 unfold G74 at h
 split at h
 ·rename_i v t m l
  exact (congrArg T.run (t74 v t m l)).trans h
 ·cases h
theorem upF_more:∀ (j f:Nat) (l:List (List D)),j + 1 ≤ f → upF f l j = upF (j + 1) l j:=by
 intro j
 induction j using Nat.strongRecOn with
 | _ j ih=>
   intro f l hf
   obtain ⟨f,rfl⟩:∃ g,f = g + 1:=⟨f - 1,by omega⟩
   simp only [upF]
   split
   ·rfl
   ·rename_i hc
    rw [not_or] at hc
    have hlt:(j - 1) / 2 < j:=by omega
    rw [ih _ hlt f _ (by omega),ih _ hlt j _ (by omega)]
theorem half_eq {j:Nat} (hj:j < 2199023255552):IntKind.wrap .i64 (Int.tdiv (IntKind.wrap .i64 ((j:Int) - 1)) 2) = (((j - 1) / 2:Nat):Int):=by
 rw [wrap_id (x:=(j:Int) - 1) (by omega) (by omega)]
 cases j with
 | zero=>rfl
 | succ j=>
   rw [show ((j + 1:Nat):Int) - 1 = (j:Int) by omega,show j + 1 - 1 = j by omega,Int.tdiv_eq_ediv_of_nonneg (by omega)]
   rw [wrap_id (by omega) (by omega)]
   omega
theorem at_take {l:List (List D)} {n i:Nat} (hi:i < n):atR (l.take n) i = atR l i:=by
 unfold atR
 simp only [List.getD_eq_getElem?_getD,List.getElem?_take,if_pos hi]
theorem ok101_0 (n:Nat):LoopSimK C (n + 1) 2 101 (loopOf C.P 101 0) (mkLK 2 l101_0 G101_0):=by
 refine loop_ofK hC (sp:=sp101) (lp:=lp101) (sw:=sw101) ⟨ok124 n,trivial⟩ ⟨ok126 n,trivial⟩ 2 [] (by kernel_rfl) rfl (fun k hk=>by cases hk) (by kernel_rfl) (fun ds=>(ds.getD 0 default).I.toNat) fun ds rr h=>?_
 unfold G101_0 at h
 split at h
 ·rename_i i m l
  obtain ⟨hp,h⟩:=need_some h
  rw [yes_iff] at hp
  obtain ⟨h0,h1,h2,h3⟩:=hp
  refine ⟨by rw [fuelC]; simp; omega,?_⟩
  rw [show roundTK C (mkTab sp101 lp101 sw101) 101 (loopOf C.P 101 0) 2 l101_0 [i,m,l] = _ from t101_0 i m l]
  obtain ⟨j,hj⟩:∃ j:Nat,i.I = j:=⟨i.I.toNat,by omega⟩
  rw [hj,half_eq (by omega)]
  simp only [hj,Int.toNat_natCast] at h h1 ⊢
  have ht:(l.L.take m.I.toNat).length = m.I.toNat:=by rw [List.length_take]; omega
  have hl1:j < m.I.toNat:=by omega
  have hl2:(j - 1) / 2 < m.I.toNat:=by omega
  simp only [at_take hl1,at_take hl2]
  simp only [upF] at h
  refine rd_need rfl (rd_ite (fun c1=>?_) fun c1=>?_)
  ·rw [beq_iff_eq] at c1
   rw [if_pos (.inl (by omega))] at h
   exact rd_out h
  ·rw [beq_eq_false_iff_ne] at c1
   refine rd_dec h2 (rd_yes (by rw [ht]; omega) (rd_not (fun c2=>?_) fun c2=>?_))
   ·have c2:=of_decide_eq_false c2
    rw [if_pos (.inr c2)] at h
    exact rd_out h
   ·have c2:=of_decide_eq_true c2
    rw [if_neg (by rw [not_or]; exact ⟨by omega,fun h=>h c2⟩)] at h
    refine rd_yes ⟨by omega,by omega,h2⟩ (rd_again ((need_yes ⟨by simp only [I_i]; omega,by simp only [I_i,Int.toNat_natCast]; omega,by simp only [I_i,L_l,Int.toNat_natCast,len_swap]; omega,by simp only [I_i,Int.toNat_natCast]; omega⟩).trans ?_) ?_)
    ·simp only [I_i,L_l,Int.toNat_natCast]
     rw [← upF_more _ j _ (by omega)]
     exact h
    ·simp only [List.getD_cons_zero,I_i,hj]; omega
 ·cases h
theorem ok101 (n:Nat):FnOKW C (n + 2) 101 (mkFW s101 G101):=by
 refine fn_ofW hC (sp:=sp101) (lp:=lp101) (sw:=sw101) ⟨ok124 n,trivial⟩ ⟨ok126 n,trivial⟩ (by kernel_rfl) [0] (by kernel_rfl) (by kernel_rfl) (fun k hk L hL=>by
  simp at hk; subst hk; cases hL; exact ok101_0 n) fun ds r h=>?_
 unfold G101 at h
 split at h
 ·rename_i j m l
  obtain ⟨hp,h⟩:=need_some h
  rw [yes_iff] at hp
  refine (congrArg T.run (t101 j m l)).trans ?_
  simp only [Int.toNat_natCast]
  exact go_yes hp h
 ·cases h
theorem downF_more (m:Nat):∀ (d i f:Nat) (l:List (List D)),m - i ≤ d → d + 1 ≤ f → downF f l m i = downF (d + 1) l m i
 | 0, i,f,l,hd,hf=>by
   obtain ⟨f,rfl⟩:∃ g,f = g + 1:=⟨f - 1,by omega⟩
   simp only [downF]
   rw [if_pos (.inl (by omega)),if_pos (.inl (by omega))]
 | d + 1,i,f,l,hd,hf=>by
   obtain ⟨f,rfl⟩:∃ g,f = g + 1:=⟨f - 1,by omega⟩
   show downF (f + 1) l m i = downF ((d + 1) + 1) l m i
   rw [downF,downF]
   split
   ·rfl
   ·rename_i hc
    rw [not_or] at hc
    have:kidR l m i = 2 * i + 1 ∨ kidR l m i = 2 * i + 2:=by unfold kidR; split <;> simp
    exact downF_more m d _ f _ (by omega) (by omega)
theorem kid_lt {l:List (List D)} {m i:Nat} (h:2 * i + 1 < m):kidR l m i < m ∧ i < kidR l m i:=by
 unfold kidR
 split
 ·rename_i hc; omega
 ·omega
theorem ok129_2 (n:Nat):LoopSimK C (n + 1) 2 129 (loopOf C.P 129 2) (mkLK 2 l129_2 G129_2):=by
 refine loop_ofK hC (sp:=sp129) (lp:=lp129) (sw:=sw129) ⟨ok124 n,trivial⟩ ⟨ok126 n,trivial⟩ 2 [] (by kernel_rfl) rfl (fun k hk=>by cases hk) (by kernel_rfl) (fun ds=>((ds.getD 1 default).I - (ds.getD 2 default).I).toNat) fun ds rr h=>?_
 unfold G129_2 at h
 split at h
 ·rename_i s m i n' l
  obtain ⟨hp,h⟩:=need_some h
  rw [yes_iff] at hp
  obtain ⟨h0,h1,h2,h3,h4⟩:=hp
  refine ⟨by rw [fuelC]; simp; omega,?_⟩
  rw [show roundTK C (mkTab sp129 lp129 sw129) 129 (loopOf C.P 129 2) 2 l129_2 [s,m,i,n',l] = _ from t129_2 s m i n' l]
  obtain ⟨j,hj⟩:∃ j:Nat,i.I = j:=⟨i.I.toNat,by omega⟩
  obtain ⟨k,hk⟩:∃ k:Nat,m.I = k:=⟨m.I.toNat,by omega⟩
  have e1:IntKind.wrap .i64 (2 * (j:Int)) = ((2 * j:Nat):Int):=by rw [wrap_id (by omega) (by omega)]; omega
  have e2:IntKind.wrap .i64 (((2 * j:Nat):Int) + 1) = ((2 * j + 1:Nat):Int):=wrap_succ (by omega)
  have e3:IntKind.wrap .i64 (((2 * j + 1:Nat):Int) + 1) = ((2 * j + 2:Nat):Int):=wrap_succ (by omega)
  simp only [hj,hk,Int.toNat_natCast] at h h1 h2
  simp only [hj,hk,e1,e2,e3,Int.toNat_natCast]
  have ht:(l.L.take n'.I.toNat).length = n'.I.toNat:=by rw [List.length_take]; omega
  rw [downF] at h
  refine rd_if (fun c1=>?_) fun c1=>rd_if (fun c2=>absurd c2 (by omega)) fun _=>?_
  ·rw [if_pos (.inl (by omega))] at h
   exact rd_out h
  ·have hstep:∀ q:Nat,kidR l.L k j = q → q < k → j < q → (atR l.L q < atR l.L j → (G129_2 [D.i s.I,D.i (k:Int),D.i (q:Int),D.i (n'.I.toNat:Int),D.l (swapR l.L j q)]).run = some rr) ∧ (¬ atR l.L q < atR l.L j → some (Ex.exit 0,[D.i s.I,D.i (j:Int),D.i (n'.I.toNat:Int),D.l l.L]) = some rr):=by
    intro q hq hqk hjq
    rw [hq] at h
    refine ⟨fun c=>?_,fun c=>?_⟩
    ·rw [if_neg (by rw [not_or]; exact ⟨by omega,fun h=>h c⟩)] at h
     refine (need_yes ⟨by simp only [I_i]; omega,by simp only [I_i]; omega,by simp only [I_i,Int.toNat_natCast]; omega,by simp only [I_i,L_l,Int.toNat_natCast,len_swap]; omega,by simp only [I_i,Int.toNat_natCast]; omega⟩).trans ?_
     simp only [I_i,L_l,Int.toNat_natCast]
     rw [downF_more k (k - 1) q (k + 1) _ (by omega) (by omega),show k - 1 + 1 = k by omega]
     exact h
    ·rw [if_pos (.inr c)] at h
     exact h
   have hend:∀ q:Nat,q < k → j < q → (((k:Int)) - (q:Int)).toNat < (m.I - i.I).toNat:=fun q h1 h2=>by rw [hj,hk]; omega
   refine rd_if (fun c3=>?_) fun c3=>?_
   ·simp only [at_take (show 2 * j + 2 < n'.I.toNat by omega),at_take (show 2 * j + 1 < n'.I.toNat by omega),at_take (show j < n'.I.toNat by omega)]
    refine rd_dec h3 (rd_yes (by rw [ht]; omega) (rd_ite (fun c4=>?_) fun c4=>?_))
    ·have c4:=of_decide_eq_true c4
     obtain ⟨z1,z2⟩:=hstep (2 * j + 2) (by unfold kidR; rw [if_pos ⟨by omega,c4⟩]) (by omega) (by omega)
     refine rd_dec h3 (rd_yes (by rw [ht]; omega) (rd_not (fun c5=>rd_out (z2 (of_decide_eq_false c5))) fun c5=>rd_yes ⟨by omega,by omega,h3⟩ (rd_again (z1 (of_decide_eq_true c5)) (hend _ (by omega) (by omega)))))
    ·have c4:=of_decide_eq_false c4
     obtain ⟨z1,z2⟩:=hstep (2 * j + 1) (by unfold kidR; rw [if_neg (fun h=>c4 h.2)]) (by omega) (by omega)
     refine rd_dec h3 (rd_yes (by rw [ht]; omega) (rd_not (fun c5=>rd_out (z2 (of_decide_eq_false c5))) fun c5=>rd_yes ⟨by omega,by omega,h3⟩ (rd_again (z1 (of_decide_eq_true c5)) (hend _ (by omega) (by omega)))))
   ·simp only [at_take (show 2 * j + 1 < n'.I.toNat by omega),at_take (show j < n'.I.toNat by omega)]
    obtain ⟨z1,z2⟩:=hstep (2 * j + 1) (by unfold kidR; rw [if_neg (fun h=>c3 (by omega))]) (by omega) (by omega)
    refine rd_dec h3 (rd_yes (by rw [ht]; omega) (rd_not (fun c5=>rd_out (z2 (of_decide_eq_false c5))) fun c5=>rd_yes ⟨by omega,by omega,h3⟩ (rd_again (z1 (of_decide_eq_true c5)) (hend _ (by omega) (by omega)))))
 ·cases h
theorem ok129 (n:Nat):FnOKW C (n + 2) 129 (mkFW s129 G129):=by
 refine fn_ofW hC (sp:=sp129) (lp:=lp129) (sw:=sw129) ⟨ok124 n,trivial⟩ ⟨ok126 n,trivial⟩ (by kernel_rfl) [2] (by kernel_rfl) (by kernel_rfl) (fun k hk L hL=>by
  simp at hk; subst hk; cases hL; exact ok129_2 n) fun ds r h=>?_
 unfold G129 at h
 split at h
 ·rename_i s m k l
  obtain ⟨hp,h⟩:=need_some h
  rw [yes_iff] at hp
  refine (congrArg T.run (t129 s m k l)).trans ?_
  simp only [Int.toNat_natCast]
  exact go_yes hp h
 ·cases h
theorem len_down (m:Nat):∀ (f:Nat) (l:List (List D)) (i:Nat),(downF f l m i).1.length = l.length
 | 0,_,_=>rfl
 | f + 1,l,i=>by
   simp only [downF]
   split
   ·rfl
   ·rw [len_down m f,len_swap]
theorem len_up:∀ (f:Nat) (l:List (List D)) (j:Nat),(upF f l j).length = l.length
 | 0,_,_=>rfl
 | f + 1,l,j=>by
   simp only [upF]
   split
   ·rfl
   ·rw [len_up f,len_swap]
theorem len_pop (l:List (List D)) (n:Nat):(popR l n).length = l.length:=by rw [popR,len_down,len_swap]
theorem ok93 (n:Nat):FnOKW C (n + 3) 93 (mkFW s93 G93):=by
 refine fn_ofW hC (sp:=sp93) (lp:=lp93) (sw:=sw93) ⟨ok123 (n + 1),trivial⟩ ⟨ok101 n,ok125 (n + 1),trivial⟩ (by kernel_rfl) [] (by kernel_rfl) rfl (fun k hk=>by cases hk) fun ds r h=>?_
 unfold G93 at h
 split at h
 ·rename_i v t m l
  obtain ⟨hp,h⟩:=need_some h
  rw [yes_iff] at hp
  obtain ⟨h1,h2⟩:=hp
  refine (congrArg T.run (t93 v t m l)).trans ?_
  simp only [Int.toNat_natCast]
  have hlen:(l.L.take m.I.toNat ++ [[D.i v.I,D.i t.I]]).length = m.I.toNat + 1:=by rw [List.length_append,List.length_take]; simp; omega
  have ht:(List.take (m.I.toNat + 1) (l.L.take m.I.toNat ++ [[D.i v.I,D.i t.I]])).length = m.I.toNat + 1:=by rw [List.length_take,hlen]; omega
  simp only [ht,hlen]
  rw [wrap_id (by omega) (by omega),show ((m.I.toNat + 1:Nat):Int) - 1 = (m.I.toNat:Int) by omega]
  simp only [Int.toNat_natCast]
  exact go_yes ⟨h1,h2⟩ (go_need (by simp) (go_yes ⟨by omega,by omega,by omega,by omega⟩ h))
 ·cases h
theorem ok128 (n:Nat):FnOKW C (n + 3) 128 (mkFW s128 G128):=by
 refine fn_ofW hC (sp:=sp128) (lp:=lp128) (sw:=sw128) ⟨ok123 (n + 1),trivial⟩ ⟨ok129 n,ok126 (n + 1),ok131 (n + 1),trivial⟩ (by kernel_rfl) [] (by kernel_rfl) rfl (fun k hk=>by cases hk) fun ds r h=>?_
 unfold G128 at h
 split at h
 ·rename_i m l
  obtain ⟨hp,h⟩:=need_some h
  rw [yes_iff] at hp
  obtain ⟨h1,h2,h3⟩:=hp
  refine (congrArg T.run (t128 m l)).trans ?_
  simp only [Int.toNat_natCast]
  have ht:(List.take m.I.toNat l.L).length = m.I.toNat:=by rw [List.length_take]; omega
  simp only [ht]
  rw [wrap_id (by omega) (by omega),show (m.I.toNat:Int) - 1 = ((m.I.toNat - 1:Nat):Int) by omega]
  simp only [Int.toNat_natCast]
  have hm:m.I.toNat - 1 + 1 = m.I.toNat:=by omega
  simp only [hm]
  refine go_need (by simp; omega) (go_yes ⟨by omega,by omega,h2⟩ (go_yes ⟨by omega,by omega,by omega,by rw [len_swap]; omega,by omega⟩ (go_yes ⟨h1,by rw [len_down,len_swap]; omega,h3⟩ ?_)))
  exact h
 ·cases h
theorem ok127 (n:Nat):FnOKW C (n + 4) 127 (mkFW s127 G127):=by
 refine fn_ofW hC (sp:=sp127) (lp:=lp127) (sw:=sw127) trivial ⟨ok128 n,trivial⟩ (by kernel_rfl) [] (by kernel_rfl) rfl (fun k hk=>by cases hk) fun ds r h=>?_
 unfold G127 G128 at h
 split at h
 ·rename_i m l
  obtain ⟨hp,h⟩:=need_some h
  rw [yes_iff] at hp
  refine (congrArg T.run (t127 m l)).trans ?_
  simp only [Int.toNat_natCast]
  exact go_yes hp h
 ·cases h
set_option maxRecDepth 100000
theorem entF_okS {l:List (List D)} {c:Int} (hl:okC l):∀ (k i:Nat) (s:Int),okS s → okS (entF l c i k s)
 | 0,_,_,h=>h
 | k + 1,i,s,h=>by
   simp only [entF]
   split
   ·exact entF_okS hl k _ _ (okS_of hl)
   ·exact entF_okS hl k _ _ h
theorem nextF_step {r:List (List D)} {v t:Int} {j:Nat} (hj:j < r.length):nextF r v t j (r.length - j) = if ix (r.getD j []) 0 = v then [.i (ix (r.getD j []) 1),.i (entW (r.getD j []) t + ix (r.getD j []) 2)] :: nextF r v t (j + 1) (r.length - (j + 1)) else nextF r v t (j + 1) (r.length - (j + 1)):=by
 rw [show r.length - j = (r.length - (j + 1)) + 1 by omega]
 rfl
theorem ok75_1 (q n:Nat):LoopSimY C (n + 1) 2 75 (loopOf C.P 75 1) (some y75) q (mkLY 2 l75_1 (G75_1 q)):=by
 refine loop_ofY hC (sp:=sp75) (lp:=lp75 q) (sw:=sw75) (Y:=y75) (yOK_mk _ _ _) ⟨ok51 n,trivial⟩ trivial 2 [] (by kernel_rfl) rfl (by kernel_rfl) (fun k hk=>by cases hk) (by kernel_rfl) (fun ds=>((ds.getD 2 default).I - (ds.getD 3 default).I).toNat) fun ds rr h=>?_
 unfold G75_1 at h
 split at h
 ·rename_i g r m i v t
  obtain ⟨hp,h⟩:=need_some h
  rw [yes_iff] at hp
  obtain ⟨hr,ht,hm,hi0,hi1,hg⟩:=hp
  have hrl:=hr.1
  refine ⟨by rw [fuelC]; simp; omega,?_⟩
  rw [show roundTY C (mkTabY sp75 (lp75 q) sw75 y75 q) 75 (loopOf C.P 75 1) 2 l75_1 [g,r,m,i,v,t] = _ from t75_1 q g r m i v t]
  obtain ⟨j,hj⟩:∃ j:Nat,i.I = j:=⟨i.I.toNat,by omega⟩
  have hq:(tab75 q).q = q:=rfl
  simp only [hj,hm,Int.toNat_natCast,ix_def,lx_def,Nat.reduceAdd,hq] at h hi0 hi1 ⊢
  have hnext:∀ {G':List (List D)},G'.length ≤ q → ((T.ite (decide (q < G'.length + (nextF r.L v.I t.I (j + 1) (r.L.length - (j + 1))).length)) (T.leaf (Ex.ret,[D.l (G' ++ (nextF r.L v.I t.I (j + 1) (r.L.length - (j + 1))).take (q + 1 - G'.length)),D.i v.I,D.i t.I]))
      (T.leaf (Ex.exit 0,[D.l (G' ++ nextF r.L v.I t.I (j + 1) (r.L.length - (j + 1))),D.i v.I,D.i t.I]))).run = some rr) → j < r.L.length → (G75_1 q [D.l G',D.l r.L,D.i (r.L.length:Int),D.i ((j + 1:Nat):Int),D.i v.I,D.i t.I]).run = some rr:=fun {G'} hG' h hlt=>by
   refine (need_yes ⟨hr,ht,by simp only [I_i,L_l],by simp only [I_i]; omega,by simp only [I_i,L_l]; omega,hG'⟩).trans ?_
   simp only [I_i,L_l,Int.toNat_natCast]
   exact h
  have hmu:j < r.L.length → ((r.L.length:Int) - ((j + 1:Nat):Int)).toNat < (m.I - i.I).toNat:=fun _=>by rw [hj,hm]; omega
  refine rd_if (fun hlt=>?_) fun hge=>?_
  ·have hlt:j < r.L.length:=by omega
   rw [nextF_step hlt] at h
   obtain ⟨hs,hc⟩:=hr.2 j hlt
   have he:=entF_okS (c:=ix (r.L.getD j []) 2) hc (lx (r.L.getD j []) 3).length 0 t.I ht
   unfold okS okT at *
   rw [wrap_succ (by omega)]
   refine rd_dec (by omega) (rd_ite (fun c1=>?_) fun c1=>?_)
   ·rw [beq_iff_eq] at c1
    rw [if_pos c1] at h
    simp only [List.length_cons] at h
    rw [wrap_id (by omega) (by omega)]
    refine rd_yes ⟨hs,ht,hc⟩ (rd_ite (fun c2=>?_) fun c2=>?_)
    ·rw [Bool.not_not] at c2
     have c2:g.L.length = q:=by simpa using c2
     rw [run_ite,if_pos (by simp; omega)] at h
     rw [show q + 1 - g.L.length = 1 by omega] at h
     exact rd_out h
    ·rw [Bool.not_not] at c2
     have c2:g.L.length ≠ q:=by
      have:¬ (g.L.length == q) = true:=by rw [show (g.L.length == q) = false from c2]; simp
      simpa using this
     refine rd_again (hnext (by simp; omega) ?_ hlt) (hmu hlt)
     simp only [List.length_append,List.length_cons,List.length_nil,List.append_nil,List.append_assoc,List.cons_append,List.nil_append]
     rw [show q + 1 - g.L.length = (q + 1 - (g.L.length + (0 + 1))) + 1 by omega,List.take_succ_cons] at h
     rw [show g.L.length + (0 + 1) + (nextF r.L v.I t.I (j + 1) (r.L.length - (j + 1))).length = g.L.length + ((nextF r.L v.I t.I (j + 1) (r.L.length - (j + 1))).length + 1) by omega]
     exact h
   ·rw [beq_eq_false_iff_ne] at c1
    rw [if_neg c1] at h
    exact rd_again (hnext hg h hlt) (hmu hlt)
  ·rw [show r.L.length - j = 0 by omega] at h
   simp only [nextF,List.length_nil,List.append_nil] at h
   rw [run_ite] at h
   split at h
   ·rename_i hc
    have:=of_decide_eq_true hc
    omega
   ·exact rd_out h
 ·cases h
theorem ok75 (n:Nat):IterOK C (n + 2) 75 y75 (mkFY s75 G75):=by
 refine iter_of hC (sp:=sp75) (lp:=lp75) (sw:=sw75) (Y:=y75) (yOK_mk _ _ _) ⟨ok51 n,trivial⟩ trivial (by kernel_rfl) [1] (by kernel_rfl) (by kernel_rfl) (by kernel_rfl) (fun q k hk L hL=>by
  simp at hk; subst hk; cases hL; exact ok75_1 q n) fun ds L h q=>?_
 unfold G75 at h
 split at h
 ·rename_i n' r v t
  obtain ⟨hp,h⟩:=need_some h
  rw [yes_iff] at hp
  cases h
  refine (congrArg T.run (t75 q n' r v t)).trans (go_yes ⟨hp.1,hp.2,rfl,by omega,by omega,by simp⟩ (go_if (fun c=>?_) fun c=>?_))
  ·simp only [List.nil_append,List.length_nil,Nat.sub_zero,run_leaf]
   rfl
  ·have c:¬ q < (nextF r.L v.I t.I 0 r.L.length).length:=fun h=>c (by simpa using h)
   simp only [List.nil_append,run_leaf]
   rw [List.take_of_length_le (by omega)]
   rfl
 ·cases h
noncomputable section
structure Sr where
 o : List (List D)
 k : Nat
 q : List (List D)
def relF:List (List D) → Sr → Sr
 | [],s=>s
 | e :: es,s=>if ix e 1 < rg s.o (ix e 0).toNat then relF es ⟨rs s.o (ix e 0).toNat (ix e 1),s.k + 1,pushR s.q s.k (ix e 0) (ix e 1)⟩ else relF es s
def takeV (s:Sr):Int:=ix ((popR s.q s.k).getD (s.k - 1) []) 0
def takeT (s:Sr):Int:=ix ((popR s.q s.k).getD (s.k - 1) []) 1
def stepS (r:List (List D)) (s:Sr):Sr:=
 if takeT s > rg s.o (takeV s).toNat then ⟨s.o,s.k - 1,popR s.q s.k⟩ else relF (nextF r (takeV s) (takeT s) 0 r.length) ⟨s.o,s.k - 1,popR s.q s.k⟩
def needS (n:Nat) (r:List (List D)) (s:Sr):Prop:=s.k ≤ s.q.length ∧ s.k < 274877906944 ∧ n ≤ s.o.length ∧ (0 ≤ takeV s ∧ takeV s < n) ∧ okS (takeT s) ∧ okR r ∧ r.length < 274877906944 ∧ ∀ i,i < r.length → 0 ≤ ix (r.getD i []) 1 ∧ ix (r.getD i []) 1 < n
def endsS (n:Nat) (r:List (List D)):Nat → Sr → Prop
 | 0,s=>s.k = 0
 | f + 1,s=>s.k ≠ 0 ∧ needS n r s ∧ endsS n r f (stepS r s)
def runSr (r:List (List D)):Nat → Sr → List (List D)
 | 0,s=>s.o
 | f + 1,s=>runSr r f (stepS r s)
def lenS (n:Nat) (r:List (List D)) (s:Sr):Nat:=Classical.epsilon fun f=>endsS n r f s
def resS (n:Nat) (r:List (List D)) (s:Sr):List (List D):=runSr r (lenS n r s) s
def haltS (n:Nat) (r:List (List D)) (s:Sr):Prop:=∃ f,f < 9223372036854775808 ∧ endsS n r f s
def mkSr (o k q:D):Sr:=⟨o.L,k.I.toNat,q.L⟩
def fillF (v:Int):Nat → Nat → List (List D) → List (List D)
 | _,0,l=>l
 | i,k + 1,l=>fillF v (i + 1) k (rs l i v)
def G73_3 (ds:List D):T (Ex × List D):=match ds with
 | [n,r,m,i,x,y,k,l]=>.need (yes (m.I = (k.I.toNat:Int) ∧ k.I.toNat ≤ l.L.length ∧ 0 ≤ i.I ∧ i.I ≤ m.I ∧ m.I < 1099511627776)) (.leaf (.exit 0,[.i n.I,.l r.L,.i x.I,.i y.I,.i (k.I.toNat:Int),.l (fillF 9223372036854775807 i.I.toNat (k.I.toNat - i.I.toNat) l.L)]))
 | _=>.fail
def G73_9 (ds:List D):T (Ex × List D):=match ds with
 | [_,r,n,o,k,q]=>.need (yes (haltS n.I.toNat r.L (mkSr o k q))) (.leaf (.exit 2,[.i (n.I.toNat:Int),.l (resS n.I.toNat r.L (mkSr o k q))]))
 | _=>.fail
def G73_14 (L:List (List D)) (ds:List D):T (Ex × List D):=match ds with
 | [a, r,a',r',n,o,k,q]=>.need (yes (n.I.toNat ≤ o.L.length ∧ k.I.toNat ≤ q.L.length ∧ k.I.toNat + L.length < 549755813888 ∧ ∀ e ∈ L,0 ≤ ix e 0 ∧ ix e 0 < (n.I.toNat:Int)))
     (.leaf (.normal,[.i a.I,.l r.L,.i a'.I,.l r'.L,.i (n.I.toNat:Int),.l (relF L (mkSr o k q)).o,.i ((relF L (mkSr o k q)).k:Int),.l (relF L (mkSr o k q)).q]))
 | _=>.fail
def startS (n:Int) (v t:Int):Sr:=⟨rs (List.replicate n.toNat [.i 9223372036854775807]) v.toNat t,1,[[.i v,.i t]]⟩
def G73 (ds:List D):T (List D):=match ds with
 | [n,v,t,_,r]=>.need (yes (0 ≤ n.I ∧ n.I < 1099511627776 ∧ 0 ≤ v.I ∧ v.I < n.I ∧ haltS n.I.toNat r.L (startS n.I v.I t.I))) (.leaf [.i n.I,.l (resS n.I.toNat r.L (startS n.I v.I t.I))])
 | _=>.fail
def noneF:Nat → Nat → List (List D) → List (List D)
 | _,0,l=>l
 | i,k + 1,l=>noneF (i + 1) k (if rg l i = 9223372036854775807 then rs l i (-1) else l)
def G46_3 (ds:List D):T (Ex × List D):=match ds with
 | [n,n2,m,i,l]=>.need (yes (m.I = (n.I.toNat:Int) ∧ n2.I.toNat = n.I.toNat ∧ n.I.toNat ≤ l.L.length ∧ 0 ≤ i.I ∧ i.I ≤ m.I ∧ m.I < 1099511627776)) (.leaf (.exit 0,[.i (n.I.toNat:Int),.l (noneF i.I.toNat (n.I.toNat - i.I.toNat) l.L)]))
 | _=>.fail
def arrF (n:Int) (r:List (List D)) (v t:Int):List (List D):=noneF 0 n.toNat (resS n.toNat r (startS n v t))
def G46 (ds:List D):T (List D):=match ds with
 | [n,r,v,t]=>.need (yes (0 ≤ n.I ∧ n.I < 1099511627776 ∧ 0 ≤ v.I ∧ v.I < n.I ∧ haltS n.I.toNat r.L (startS n.I v.I t.I))) (.leaf [.i n.I,.l (arrF n.I r.L v.I t.I)])
 | _=>.fail
end
noncomputable def it73_14:ItL:=[(75,mkFY s75 G75)]
noncomputable def sp73:SpL:=[(123,mkF s123 G123)]
noncomputable def lp73:LpL:=[(3,mkL l73_3 G73_3),(9,mkL l73_9 G73_9)]
noncomputable def sw73:SwL:=[(93,mkFW s93 G93),(74,mkFW s74 G74),(127,mkFW s127 G127)]
noncomputable def rg73:LpL:=[(14,rangeS 0 [2,6,7,9,51] (rangeOf C.P 73 14).1 it73_14 h73_14 G73_14)]
noncomputable def tab73:Tab:=mkTabR sp73 lp73 sw73 rg73
noncomputable def sp46:SpL:=[(73,mkF s73 G73)]
noncomputable def lp46:LpL:=[(3,mkL l46_3 G46_3)]
noncomputable def sw46:SwL:=[(74,mkFW s74 G74)]
noncomputable def tab46:Tab:=mkTab sp46 lp46 sw46
set_option linter.unusedVariables false
set_option maxRecDepth 100000
theorem t73 (a b c d e:D):fnT C tab73 73 s73 [a,b,c,d,e] =
 T.need (decide ((0:Int) ≤ a.I ∧ a.I = a.I ∧ a.I ≤ (2:Int) ^ 40 ∧ (↑Try.prog.types[3].bytes:Int) * a.I ≤ (2:Int) ^ 46)) (T.need (yes ((↑(List.length (List.replicate a.I.toNat [D.i 0])):Int) = (↑(Int.toNat (↑(List.length (List.replicate a.I.toNat [D.i 0])):Int)):Int) ∧ Int.toNat (↑(List.length (List.replicate a.I.toNat [D.i 0])):Int) ≤ List.length (List.replicate a.I.toNat [D.i 0]) ∧ (0:Int) ≤ (0:Int) ∧ (0:Int) ≤ (↑(List.length (List.replicate a.I.toNat [D.i 0])):Int) ∧ (↑(List.length (List.replicate a.I.toNat [D.i 0])):Int) < (1099511627776:Int))) (T.need (decide ((0:Int) ≤ b.I ∧ b.I < (↑(Int.toNat (↑(Int.toNat (↑(List.length (List.replicate a.I.toNat [D.i 0])):Int)):Int)):Int))) (T.need (decide (b.I.toNat < List.length (fillF (9223372036854775807:Int) (Int.toNat (0:Int)) (Int.toNat (↑(List.length (List.replicate a.I.toNat [D.i 0])):Int) - Int.toNat (0:Int)) (List.replicate a.I.toNat [D.i 0])))) (T.need (yes (haltS (Int.toNat (↑(Int.toNat (↑(Int.toNat (↑(List.length (List.replicate a.I.toNat [D.i 0])):Int)):Int)):Int)) e.L (mkSr (D.l (List.set (fillF (9223372036854775807:Int) (Int.toNat (0:Int)) (Int.toNat (↑(List.length (List.replicate a.I.toNat [D.i 0])):Int) - Int.toNat (0:Int)) (List.replicate a.I.toNat [D.i 0])) b.I.toNat (updC (List.getD (fillF (9223372036854775807:Int) (Int.toNat (0:Int)) (Int.toNat (↑(List.length (List.replicate a.I.toNat [D.i 0])):Int) - Int.toNat (0:Int)) (List.replicate a.I.toNat [D.i 0])) b.I.toNat []) [D.i c.I] 0 0 (List.length [K.int IntKind.i64])))) (D.i (↑(List.length [[D.i b.I,D.i c.I]]):Int)) (D.l [[D.i b.I,D.i c.I]])))) (T.leaf [D.i (↑(Int.toNat (↑(Int.toNat (↑(Int.toNat (↑(Int.toNat (↑(List.length (List.replicate a.I.toNat [D.i 0])):Int)):Int)):Int)):Int)):Int),D.l (resS (Int.toNat (↑(Int.toNat (↑(Int.toNat (↑(List.length (List.replicate a.I.toNat [D.i 0])):Int)):Int)):Int)) e.L (mkSr (D.l (List.set (fillF (9223372036854775807:Int) (Int.toNat (0:Int)) (Int.toNat (↑(List.length (List.replicate a.I.toNat [D.i 0])):Int) - Int.toNat (0:Int)) (List.replicate a.I.toNat [D.i 0])) b.I.toNat (updC (List.getD (fillF (9223372036854775807:Int) (Int.toNat (0:Int)) (Int.toNat (↑(List.length (List.replicate a.I.toNat [D.i 0])):Int) - Int.toNat (0:Int)) (List.replicate a.I.toNat [D.i 0])) b.I.toNat []) [D.i c.I] 0 0 (List.length [K.int IntKind.i64])))) (D.i (↑(List.length [[D.i b.I,D.i c.I]]):Int)) (D.l [[D.i b.I,D.i c.I]])))]))))):=by kernel_rfl
theorem t73_3 (a b c d e f g h:D):roundT C tab73 73 (loopOf C.P 73 3) l73_3 [a,b,c,d,e,f,g,h] =
 T.ite (decide (d.I < c.I)) (T.need (decide ((0:Int) ≤ d.I ∧ d.I < (g.I.toNat:Int))) (T.need (decide (d.I.toNat < h.L.length)) (T.leaf (Rd.again [D.i a.I,D.l b.L,D.i c.I,D.i (IntKind.i64.wrap (d.I + (1:Int))),D.i e.I,D.i f.I,D.i (g.I.toNat:Int),D.l (List.set h.L d.I.toNat (updC (List.getD h.L d.I.toNat []) [D.i 9223372036854775807] 0 0 (List.length [K.int IntKind.i64])))])))) (T.leaf (Rd.out (Ex.exit 0) [D.i a.I,D.l b.L,D.i e.I,D.i f.I,D.i (g.I.toNat:Int),D.l h.L])):=by kernel_rfl
theorem t73_9 (a b c d e f:D):roundT C tab73 73 (loopOf C.P 73 9) l73_9 [a,b,c,d,e,f] =
 T.need (decide (e.I.toNat ≤ f.L.length)) (T.ite (decide ((↑(List.length (List.take e.I.toNat f.L)):Int) > (0:Int))) (T.need (yes (1 ≤ Int.toNat (e.I.toNat:Int) ∧ Int.toNat (e.I.toNat:Int) ≤ f.L.length ∧ Int.toNat (e.I.toNat:Int) < 1099511627776)) (T.need (decide ((0:Int) ≤ ix (List.getD (popR f.L (Int.toNat (e.I.toNat:Int))) (Int.toNat (e.I.toNat:Int) - 1) []) 0 ∧ ix (List.getD (popR f.L (Int.toNat (e.I.toNat:Int))) (Int.toNat (e.I.toNat:Int) - 1) []) 0 < (c.I.toNat:Int))) (T.need (decide (Int.toNat (ix (List.getD (popR f.L (Int.toNat (e.I.toNat:Int))) (Int.toNat (e.I.toNat:Int) - 1) []) 0) < d.L.length)) (T.ite (decide (ix (List.getD (popR f.L (Int.toNat (e.I.toNat:Int))) (Int.toNat (e.I.toNat:Int) - 1) []) 1 > D.I (List.getD (List.getD d.L (Int.toNat (ix (List.getD (popR f.L (Int.toNat (e.I.toNat:Int))) (Int.toNat (e.I.toNat:Int) - 1) []) 0)) []) 0 default))) (T.leaf (Rd.again [D.i a.I,D.l b.L,D.i (c.I.toNat:Int),D.l d.L,D.i (↑(Int.toNat (↑(Int.toNat (e.I.toNat:Int) - 1):Int)):Int),D.l (popR f.L (Int.toNat (e.I.toNat:Int)))])) (T.need (yes (okR b.L ∧ okS (ix (List.getD (popR f.L (Int.toNat (e.I.toNat:Int))) (Int.toNat (e.I.toNat:Int) - 1) []) 1))) (T.need (yes (Int.toNat (c.I.toNat:Int) ≤ d.L.length ∧ Int.toNat (↑(Int.toNat (↑(Int.toNat (e.I.toNat:Int) - 1):Int)):Int) ≤ List.length (popR f.L (Int.toNat (e.I.toNat:Int))) ∧ Int.toNat (↑(Int.toNat (↑(Int.toNat (e.I.toNat:Int) - 1):Int)):Int) + List.length (nextF b.L (ix (List.getD (popR f.L (Int.toNat (e.I.toNat:Int))) (Int.toNat (e.I.toNat:Int) - 1) []) 0) (ix (List.getD (popR f.L (Int.toNat (e.I.toNat:Int))) (Int.toNat (e.I.toNat:Int) - 1) []) 1) 0 b.L.length) < 549755813888 ∧ ∀ (e_1:List D),e_1 ∈ nextF b.L (ix (List.getD (popR f.L (Int.toNat (e.I.toNat:Int))) (Int.toNat (e.I.toNat:Int) - 1) []) 0) (ix (List.getD (popR f.L (Int.toNat (e.I.toNat:Int))) (Int.toNat (e.I.toNat:Int) - 1) []) 1) 0 b.L.length → (0:Int) ≤ ix e_1 0 ∧ ix e_1 0 < (↑(Int.toNat (c.I.toNat:Int)):Int))) (T.leaf (Rd.again [D.i a.I,D.l b.L,D.i (↑(Int.toNat (↑(Int.toNat (c.I.toNat:Int)):Int)):Int),D.l (relF (nextF b.L (ix (List.getD (popR f.L (Int.toNat (e.I.toNat:Int))) (Int.toNat (e.I.toNat:Int) - 1) []) 0) (ix (List.getD (popR f.L (Int.toNat (e.I.toNat:Int))) (Int.toNat (e.I.toNat:Int) - 1) []) 1) 0 b.L.length) (mkSr (D.l d.L) (D.i (↑(Int.toNat (↑(Int.toNat (e.I.toNat:Int) - 1):Int)):Int)) (D.l (popR f.L (Int.toNat (e.I.toNat:Int)))))).o,D.i (↑(Int.toNat (↑(relF (nextF b.L (ix (List.getD (popR f.L (Int.toNat (e.I.toNat:Int))) (Int.toNat (e.I.toNat:Int) - 1) []) 0) (ix (List.getD (popR f.L (Int.toNat (e.I.toNat:Int))) (Int.toNat (e.I.toNat:Int) - 1) []) 1) 0 b.L.length) (mkSr (D.l d.L) (D.i (↑(Int.toNat (↑(Int.toNat (e.I.toNat:Int) - 1):Int)):Int)) (D.l (popR f.L (Int.toNat (e.I.toNat:Int)))))).k:Int)):Int),D.l (relF (nextF b.L (ix (List.getD (popR f.L (Int.toNat (e.I.toNat:Int))) (Int.toNat (e.I.toNat:Int) - 1) []) 0) (ix (List.getD (popR f.L (Int.toNat (e.I.toNat:Int))) (Int.toNat (e.I.toNat:Int) - 1) []) 1) 0 b.L.length) (mkSr (D.l d.L) (D.i (↑(Int.toNat (↑(Int.toNat (e.I.toNat:Int) - 1):Int)):Int)) (D.l (popR f.L (Int.toNat (e.I.toNat:Int)))))).q])))))))) (T.leaf (Rd.out (Ex.exit 2) [D.i (c.I.toNat:Int),D.l d.L]))):=by kernel_rfl
theorem t73_r14 (a b c d e f g h i j:D):roundRT C tab73 73 (rangeOf C.P 73 14) 0 5 [2,6,7,9,51] h73_14 y75 [a,b,c,d,e,f,g,h] [i,j] =
 T.need (decide ((0:Int) ≤ i.I ∧ i.I < (e.I.toNat:Int))) (T.need (decide (i.I.toNat < f.L.length)) (T.ite (decide (j.I < D.I (List.getD (List.getD f.L i.I.toNat []) 0 default))) (T.need (decide ((0:Int) ≤ i.I ∧ i.I < (e.I.toNat:Int))) (T.need (decide (i.I.toNat < f.L.length)) (T.need (yes (Int.toNat (g.I.toNat:Int) ≤ h.L.length ∧ Int.toNat (g.I.toNat:Int) < 1099511627776)) (T.leaf (Rd.again [D.i a.I,D.l b.L,D.i c.I,D.l d.L,D.i (e.I.toNat:Int),D.l (List.set f.L i.I.toNat (updC (List.getD f.L i.I.toNat []) [D.i j.I] 0 0 (List.length [K.int IntKind.i64]))),D.i (↑(Int.toNat (↑(Int.toNat (g.I.toNat:Int) + 1):Int)):Int),D.l (pushR h.L (Int.toNat (g.I.toNat:Int)) i.I j.I)],[]))))) (T.leaf (Rd.again [D.i a.I,D.l b.L,D.i c.I,D.l d.L,D.i (e.I.toNat:Int),D.l f.L,D.i (g.I.toNat:Int),D.l h.L],[])))):=by kernel_rfl
theorem t46 (a b c d:D):fnT C tab46 46 s46 [a,b,c,d] =
 T.need (yes ((0:Int) ≤ a.I ∧ a.I < (1099511627776:Int) ∧ (0:Int) ≤ c.I ∧ c.I < a.I ∧ haltS a.I.toNat b.L (startS a.I c.I d.I))) (T.need (yes ((a.I.toNat:Int) = (↑(Int.toNat (a.I.toNat:Int)):Int) ∧ Int.toNat (a.I.toNat:Int) = Int.toNat (a.I.toNat:Int) ∧ Int.toNat (a.I.toNat:Int) ≤ List.length (resS a.I.toNat b.L (startS a.I c.I d.I)) ∧ (0:Int) ≤ (0:Int) ∧ (0:Int) ≤ (a.I.toNat:Int) ∧ (a.I.toNat:Int) < (1099511627776:Int))) (T.leaf [D.i (↑(Int.toNat (↑(Int.toNat (a.I.toNat:Int)):Int)):Int),D.l (noneF (Int.toNat (0:Int)) (Int.toNat (a.I.toNat:Int) - Int.toNat (0:Int)) (resS a.I.toNat b.L (startS a.I c.I d.I)))])):=by kernel_rfl
theorem t46_3 (a b c d e:D):roundT C tab46 46 (loopOf C.P 46 3) l46_3 [a,b,c,d,e] =
 T.ite (decide (d.I < c.I)) (T.need (decide ((0:Int) ≤ d.I ∧ d.I < (b.I.toNat:Int))) (T.need (decide (d.I.toNat < e.L.length)) (T.ite (D.I (List.getD (List.getD e.L d.I.toNat []) 0 default) == (9223372036854775807:Int)) (T.need (decide ((0:Int) ≤ d.I ∧ d.I < (a.I.toNat:Int))) (T.need (decide (d.I.toNat < e.L.length)) (T.leaf (Rd.again [D.i (a.I.toNat:Int),D.i (b.I.toNat:Int),D.i c.I,D.i (IntKind.i64.wrap (d.I + (1:Int))),D.l (List.set e.L d.I.toNat (updC (List.getD e.L d.I.toNat []) [D.i (-1:Int)] 0 0 (List.length [K.int IntKind.i64])))])))) (T.leaf (Rd.again [D.i (a.I.toNat:Int),D.i (b.I.toNat:Int),D.i c.I,D.i (IntKind.i64.wrap (d.I + (1:Int))),D.l e.L]))))) (T.leaf (Rd.out (Ex.exit 0) [D.i (a.I.toNat:Int),D.l e.L])):=by kernel_rfl
set_option maxRecDepth 100000
theorem ok73_3 (n:Nat):LoopSim C (n + 4) 73 (loopOf C.P 73 3) (mkL l73_3 G73_3):=by
 refine loop_ofR hC (sp:=sp73) (lp:=lp73) (sw:=sw73) (rg:=rg73) ⟨ok123 (n + 3),trivial⟩ ⟨ok93 (n + 1),ok74 (n + 3),ok127 n,trivial⟩ 0 [] [] (by kernel_rfl) rfl (by kernel_rfl) rfl (fun k hk=>by cases hk) (fun k hk=>by cases hk) (by kernel_rfl) (fun ds=>((ds.getD 2 default).I - (ds.getD 3 default).I).toNat) fun ds rr h=>?_
 unfold G73_3 at h
 split at h
 ·rename_i a r m i x y k l
  obtain ⟨hp,h⟩:=need_some h
  rw [yes_iff] at hp
  obtain ⟨hm,hk,hi0,hi1,hm2⟩:=hp
  refine ⟨by rw [fuelC]; simp; omega,?_⟩
  rw [show roundTK C (mkTabR sp73 lp73 sw73 rg73) 73 (loopOf C.P 73 3) 0 l73_3 [a,r,m,i,x,y,k,l] = _ from t73_3 a r m i x y k l]
  obtain ⟨j,hj⟩:∃ j:Nat,i.I = j:=⟨i.I.toNat,by omega⟩
  simp only [hj,hm,Int.toNat_natCast,upd1,rs_def] at h hi0 hi1 hm2 ⊢
  refine rd_if (fun hlt=>?_) fun hge=>?_
  ·rw [wrap_succ (by omega)]
   rw [show k.I.toNat - j = (k.I.toNat - (j + 1)) + 1 by omega] at h
   refine rd_dec (by omega) (rd_dec (by omega) (rd_again ((need_yes ⟨by simp only [I_i,Int.toNat_natCast],by simp only [I_i,L_l,Int.toNat_natCast,len_rs]; exact hk,by simp only [I_i]; omega,by simp only [I_i]; omega,by simp only [I_i]; omega⟩).trans ?_) ?_))
   ·simp only [I_i,L_l,Int.toNat_natCast]
    exact h
   ·show ((k.I.toNat:Int) - ((j + 1:Nat):Int)).toNat < (m.I - i.I).toNat
    rw [hj,hm]; omega
  ·rw [show k.I.toNat - j = 0 by omega] at h
   exact rd_out h
 ·cases h
theorem rel_len:∀ (L:List (List D)) (s:Sr),(relF L s).o.length = s.o.length
 | [],_=>rfl
 | e :: es,s=>by
   simp only [relF]
   split
   ·rw [rel_len es,len_rs]
   ·exact rel_len es s
theorem len_push (l:List (List D)) {n:Nat} (v t:Int) (h:n ≤ l.length):(pushR l n v t).length = n + 1:=by
 unfold pushR
 rw [len_up,List.length_append,List.length_take]
 simp
 omega
theorem head75 (e:List D):y75.head e = y75.head [e.getD 0 default,e.getD 1 default]:=by
 match e with
 | []=>rfl
 | [_]=>rfl
 | _ :: _ :: _=>rfl
theorem fold73 (L:List (List D)):∀ (ds:List D) (rr:Ex × List D),(G73_14 L ds).run = some rr → FoldR (fun ds el=>(roundRT C tab73 73 (rangeOf C.P 73 14) 0 5 [2,6,7,9,51] h73_14 y75 ds el).run) y75.give (fun a b=>headA h73_14 a = headA h73_14 b) ds L rr.1 rr.2:=by
 induction L with
 | nil=>
   intro ds rr h
   unfold G73_14 at h
   split at h
   ·rename_i a r a' r' m o k q
    obtain ⟨-,h⟩:=need_some h
    cases h
    exact .nil (by rfl)
   ·cases h
 | cons e es ih=>
   intro ds rr h
   unfold G73_14 at h
   split at h
   ·rename_i a r a' r' m o k q
    obtain ⟨hp,h⟩:=need_some h
    rw [yes_iff] at hp
    obtain ⟨h1,h2,h3,h4⟩:=hp
    simp only [List.length_cons] at h3
    obtain ⟨e1,e2⟩:=h4 e List.mem_cons_self
    have h5:∀ x ∈ es,0 ≤ ix x 0 ∧ ix x 0 < (m.I.toNat:Int):=fun x hx=>h4 x (List.mem_cons_of_mem _ hx)
    have key:∀ (i j:D),i.I = ix e 0 → j.I = ix e 1 → ∃ ds',(roundRT C tab73 73 (rangeOf C.P 73 14) 0 5 [2,6,7,9,51] h73_14 y75 [a,r,a',r',m,o,k,q] [i,j]).run = some (.again ds',[]) ∧ (G73_14 es ds').run = some rr:=by
     intro i j hi hj
     have ht:=congrArg T.run (t73_r14 a r a' r' m o k q i j)
     rw [ht]
     simp only [hi,hj,Int.toNat_natCast,upd1,rs_def,rg_def]
     by_cases hc:ix e 1 < rg o.L (ix e 0).toNat
     ·have hrel:relF (e :: es) (mkSr o k q) = relF es ⟨rs o.L (ix e 0).toNat (ix e 1),k.I.toNat + 1,pushR q.L k.I.toNat (ix e 0) (ix e 1)⟩:=by
       simp only [relF]
       exact if_pos hc
      rw [hrel] at h
      refine ⟨_,go_dec ⟨e1,e2⟩ (go_dec (by omega) (go_pos hc (go_dec ⟨e1,e2⟩ (go_dec (by omega) (go_yes ⟨h2,by omega⟩ rfl))))),?_⟩
      refine (need_yes ⟨by simp only [I_i,L_l,Int.toNat_natCast,len_rs]; exact h1,by simp only [I_i,L_l,Int.toNat_natCast]; rw [len_push _ _ _ h2]; exact Nat.le_refl _,by simp only [I_i,Int.toNat_natCast]; omega,by simp only [I_i,Int.toNat_natCast]; exact h5⟩).trans ?_
      simp only [mkSr,I_i,L_l,Int.toNat_natCast]
      exact h
     ·have hrel:relF (e :: es) (mkSr o k q) = relF es (mkSr o k q):=by
       simp only [relF]
       exact if_neg hc
      rw [hrel] at h
      refine ⟨_,go_dec ⟨e1,e2⟩ (go_dec (by omega) (go_neg hc rfl)),?_⟩
      refine (need_yes ⟨by simp only [I_i,L_l,Int.toNat_natCast]; exact h1,by simp only [I_i,L_l,Int.toNat_natCast]; exact h2,by simp only [I_i,Int.toNat_natCast]; omega,by simp only [I_i,Int.toNat_natCast]; exact h5⟩).trans ?_
      simp only [mkSr,I_i,L_l,Int.toNat_natCast] at h ⊢
      exact h
    obtain ⟨ds',k1,k2⟩:=key (e.getD 0 default) (e.getD 1 default) rfl rfl
    refine .again (x':=[]) (ds':=ds') ?_ (fun h=>by cases h) (ih _ _ k2)
    have:roundRT C tab73 73 (rangeOf C.P 73 14) 0 5 [2,6,7,9,51] h73_14 y75 [a,r,a',r',m,o,k,q] e = roundRT C tab73 73 (rangeOf C.P 73 14) 0 5 [2,6,7,9,51] h73_14 y75 [a,r,a',r',m,o,k,q] [e.getD 0 default,e.getD 1 default]:=by
     unfold roundRT
     rw [head75 e]
    rw [this]
    exact k1
   ·cases h
theorem ok73_14 (n:Nat):CodeSim C (n + 4) 0 73 (rangeOf C.P 73 14).code none 0 (rangeS 0 [2,6,7,9,51] (rangeOf C.P 73 14).1 it73_14 h73_14 G73_14):=
 range_of hC (sp:=sp73) (lp:=lp73) (sw:=sw73) (rg:=rg73) (Y:=y75) (yOK_mk _ _ _) ⟨ok123 (n + 3),trivial⟩ ⟨ok93 (n + 1),ok74 (n + 3),ok127 n,trivial⟩ 14 0 5 [] (by kernel_rfl) rfl (by kernel_rfl) (by exact ⟨by kernel_rfl,by kernel_rfl⟩) (fun k hk=>by cases hk)
  (by kernel_rfl) (by kernel_rfl) (it:=it73_14) ⟨ok75 (n + 2),trivial⟩ fun L ds rr h=>fold73 L ds rr h
theorem ends_uniq {m:Nat} {r:List (List D)}:∀ {f g:Nat} {s:Sr},endsS m r f s → endsS m r g s → f = g
 | 0,0,_,_,_=>rfl
 | 0,g + 1,s,h,h'=>absurd h h'.1
 | f + 1,0,s,h,h'=>absurd h' h.1
 | f + 1,g + 1,s,h,h'=>by rw [ends_uniq h.2.2 h'.2.2]
theorem lenS_eq {m:Nat} {r:List (List D)} {f:Nat} {s:Sr} (h:endsS m r f s):lenS m r s = f:=ends_uniq (Classical.epsilon_spec (p:=fun f=>endsS m r f s) ⟨f,h⟩) h
theorem resS_eq {m:Nat} {r:List (List D)} {f:Nat} {s:Sr} (h:endsS m r f s):resS m r s = runSr r f s:=by unfold resS; rw [lenS_eq h]
theorem halt_zero {m:Nat} {r:List (List D)} {s:Sr} (hk:s.k = 0):resS m r s = s.o ∧ lenS m r s = 0:=by
 have:endsS m r 0 s:=hk
 exact ⟨resS_eq this,lenS_eq this⟩
theorem halt_step {m:Nat} {r:List (List D)} {s:Sr} (h:haltS m r s) (hk:s.k ≠ 0):needS m r s ∧ haltS m r (stepS r s) ∧ resS m r s = resS m r (stepS r s) ∧ lenS m r (stepS r s) < lenS m r s ∧ lenS m r s < 9223372036854775808:=by
 obtain ⟨f,hf,he⟩:=h
 cases f with
 | zero=>exact absurd he hk
 | succ f=>
   have he':=he
   obtain ⟨-,h1,h2⟩:=he
   exact ⟨h1,⟨f,by omega,h2⟩,by rw [resS_eq he',resS_eq h2]; rfl,by rw [lenS_eq he',lenS_eq h2]; omega,by rw [lenS_eq he']; exact hf⟩
theorem next_mem {r:List (List D)} {v t:Int}:∀ (k i:Nat) {e:List D},e ∈ nextF r v t i k → ∃ j,i ≤ j ∧ j < i + k ∧ ix e 0 = ix (r.getD j []) 1 ∧ ix (r.getD j []) 0 = v ∧ ix e 1 = entW (r.getD j []) t + ix (r.getD j []) 2
 | 0,_,_,h=>by cases h
 | k + 1,i,e,h=>by
   simp only [nextF] at h
   split at h
   ·rename_i hc
    rcases List.mem_cons.1 h with rfl | h
    ·exact ⟨i,Nat.le_refl _,by omega,rfl,hc,rfl⟩
    ·obtain ⟨j,h1,h2,h3⟩:=next_mem k (i + 1) h
     exact ⟨j,by omega,by omega,h3⟩
   ·obtain ⟨j,h1,h2,h3⟩:=next_mem k (i + 1) h
    exact ⟨j,by omega,by omega,h3⟩
theorem next_len {r:List (List D)} {v t:Int}:∀ (k i:Nat),(nextF r v t i k).length ≤ k
 | 0,_=>Nat.le_refl _
 | k + 1,i=>by
   simp only [nextF]
   have:=next_len (r:=r) (v:=v) (t:=t) k (i + 1)
   split
   ·simp only [List.length_cons]; omega
   ·omega
theorem ok73_9 (n:Nat):LoopSim C (n + 4) 73 (loopOf C.P 73 9) (mkL l73_9 G73_9):=by
 refine loop_ofR hC (sp:=sp73) (lp:=lp73) (sw:=sw73) (rg:=rg73) ⟨ok123 (n + 3),trivial⟩ ⟨ok93 (n + 1),ok74 (n + 3),ok127 n,trivial⟩ 0 [] [14] (by kernel_rfl) rfl (by kernel_rfl) (by kernel_rfl) (fun k hk=>by cases hk)
  (fun k hk L hL=>by simp at hk; subst hk; cases hL; exact ok73_14 n) (by kernel_rfl) (fun ds=>lenS (ds.getD 2 default).I.toNat (ds.getD 1 default).L (mkSr (ds.getD 3 default) (ds.getD 4 default) (ds.getD 5 default))) fun ds rr h=>?_
 unfold G73_9 at h
 split at h
 ·rename_i a r m o k q
  obtain ⟨hp,h⟩:=need_some h
  rw [yes_iff] at hp
  have hlt:lenS m.I.toNat r.L (mkSr o k q) < 9223372036854775808:=by
   by_cases hk:(mkSr o k q).k = 0
   ·rw [(halt_zero hk).2]; omega
   ·exact (halt_step hp hk).2.2.2.2
  refine ⟨by rw [fuelC]; exact Nat.lt_trans hlt (by omega),?_⟩
  rw [show roundTK C (mkTabR sp73 lp73 sw73 rg73) 73 (loopOf C.P 73 9) 0 l73_9 [a,r,m,o,k,q] = _ from t73_9 a r m o k q]
  simp only [Int.toNat_natCast,rg_def]
  by_cases hk:k.I.toNat = 0
  ·rw [(halt_zero (m:=m.I.toNat) (r:=r.L) (s:=mkSr o k q) hk).1] at h
   refine rd_dec (by omega) (rd_neg (by rw [hk]; simp) (rd_out h))
  ·obtain ⟨hN,h1,h2,h3,-⟩:=halt_step hp hk
   obtain ⟨n1,n2,n3,n4,n5,n6,n7,n8⟩:=hN
   rw [h2] at h
   generalize hS:mkSr o k q = S at *
   have hSk:S.k = k.I.toNat:=by rw [← hS]; rfl
   have hSq:S.q = q.L:=by rw [← hS]; rfl
   have hSo:S.o = o.L:=by rw [← hS]; rfl
   have hV:ix ((popR q.L k.I.toNat).getD (k.I.toNat - 1) []) 0 = takeV S:=by unfold takeV; rw [hSk,hSq]
   have hT:ix ((popR q.L k.I.toNat).getD (k.I.toNat - 1) []) 1 = takeT S:=by unfold takeT; rw [hSk,hSq]
   simp only [hV,hT]
   rw [hSq,hSk] at n1
   rw [hSk] at n2
   rw [hSo] at n3
   have hlt1:(List.take k.I.toNat q.L).length = k.I.toNat:=by rw [List.length_take]; omega
   refine rd_dec n1 (rd_pos (by rw [hlt1]; omega) (rd_yes ⟨by omega,n1,by omega⟩ (rd_dec n4 (rd_dec (by omega) (rd_if (fun c=>?_) fun c=>?_)))))
   ·have hst:stepS r.L S = mkSr (D.l o.L) (D.i ((k.I.toNat - 1:Nat):Int)) (D.l (popR q.L k.I.toNat)):=by
     unfold stepS
     rw [if_pos (by rw [hSo]; exact c),hSo,hSk,hSq]
     rfl
    refine rd_again ((need_yes (by rw [← hst]; exact h1)).trans ?_) (by
     show lenS m.I.toNat r.L (mkSr (D.l o.L) (D.i ((k.I.toNat - 1:Nat):Int)) (D.l (popR q.L k.I.toNat))) < lenS m.I.toNat r.L (mkSr o k q)
     rw [← hst,hS]; exact h3)
    rw [← hst]
    exact h
   ·have hst:stepS r.L S = relF (nextF r.L (takeV S) (takeT S) 0 r.L.length) (mkSr (D.l o.L) (D.i ((k.I.toNat - 1:Nat):Int)) (D.l (popR q.L k.I.toNat))):=by
     unfold stepS
     rw [if_neg (by rw [hSo]; exact c),hSo,hSk,hSq]
     rfl
    have hnl:=next_len (r:=r.L) (v:=takeV S) (t:=takeT S) r.L.length 0
    refine rd_yes ⟨n6,n5⟩ (rd_yes ⟨n3,by rw [len_pop]; omega,by omega,fun e he=>?_⟩ ?_)
    ·obtain ⟨j,-,hj,e1,-⟩:=next_mem _ _ he
     rw [e1]
     exact n8 j (by omega)
    ·have hmk:∀ s:Sr,mkSr (D.l s.o) (D.i (s.k:Int)) (D.l s.q) = s:=fun s=>by simp only [mkSr,I_i,L_l,Int.toNat_natCast]
     rw [← hst]
     refine rd_again ((need_yes (by simp only [I_i,L_l,Int.toNat_natCast,hmk]; exact h1)).trans ?_) (by
      show lenS m.I.toNat r.L (mkSr (D.l (stepS r.L S).o) (D.i ((stepS r.L S).k:Int)) (D.l (stepS r.L S).q)) < lenS m.I.toNat r.L (mkSr o k q)
      rw [hmk,hS]; exact h3)
     simp only [I_i,L_l,Int.toNat_natCast,hmk]
     exact h
 ·cases h
theorem fill_app (v:Int):∀ (k:Nat) (a:List (List D)),fillF v a.length k (a ++ List.replicate k [.i 0]) = a ++ List.replicate k [.i v]
 | 0,a=>by simp [fillF]
 | k + 1,a=>by
   simp only [fillF]
   have:rs (a ++ List.replicate (k + 1) [D.i 0]) a.length v = (a ++ [[D.i v]]) ++ List.replicate k [D.i 0]:=by
    unfold rs
    rw [List.replicate_succ,List.set_append_right _ _ (Nat.le_refl _),Nat.sub_self,List.set_cons_zero,List.append_assoc]
    rfl
   rw [this]
   have h2:=fill_app v k (a ++ [[D.i v]])
   rw [List.length_append,List.length_singleton] at h2
   rw [h2,List.replicate_succ,List.append_assoc]
   rfl
theorem fill_all (v:Int) (n:Nat):fillF v 0 n (List.replicate n [.i 0]) = List.replicate n [.i v]:=by
 have:=fill_app v n []
 simpa using this
theorem ok73 (n:Nat):FnOK C (n + 5) 73 (mkF s73 G73):=by
 have hby:Try.prog.types[3].bytes = 8:=by kernel_rfl
 refine fn_ofR hC (sp:=sp73) (lp:=lp73) (sw:=sw73) (rg:=rg73) ⟨ok123 (n + 3),trivial⟩ ⟨ok93 (n + 1),ok74 (n + 3),ok127 n,trivial⟩ (by kernel_rfl) [3,9] [] (by kernel_rfl) (by kernel_rfl) (by kernel_rfl) rfl (fun k hk L hL=>by
  simp at hk; rcases hk with rfl | rfl <;> cases hL
  ·exact ok73_3 n
  ·exact ok73_9 n) (fun k hk=>by cases hk) fun ds r h=>?_
 unfold G73 at h
 split at h
 ·rename_i m v t a r'
  obtain ⟨hp,h⟩:=need_some h
  rw [yes_iff] at hp
  obtain ⟨h0,h1,h2,h3,h4⟩:=hp
  refine (congrArg T.run (t73 m v t a r')).trans ?_
  have hz:(0:Int).toNat = 0:=rfl
  simp only [List.length_replicate,Int.toNat_natCast,hz,Nat.sub_zero,fill_all,upd1,rs_def]
  have hm:(m.I.toNat:Int) = m.I:=by omega
  refine go_need (by rw [hby]; simp; omega) (go_yes ⟨trivial,Nat.le_refl _,by omega,by omega,by omega⟩ (go_dec (by omega) (go_need (by simp; omega) (go_yes h4 ?_))))
  rw [hm]
  exact h
 ·cases h
theorem run_len {r:List (List D)}:∀ (f:Nat) (s:Sr),(runSr r f s).length = s.o.length
 | 0,_=>rfl
 | f + 1,s=>by
   simp only [runSr]
   rw [run_len f]
   unfold stepS
   split
   ·rfl
   ·exact rel_len _ _
theorem none_len:∀ (k i:Nat) (l:List (List D)),(noneF i k l).length = l.length
 | 0,_,_=>rfl
 | k + 1,i,l=>by
   simp only [noneF]
   rw [none_len k]
   split
   ·exact len_rs _ _ _
   ·rfl
theorem ok46_3 (n:Nat):LoopSim C (n + 5) 46 (loopOf C.P 46 3) (mkL l46_3 G46_3):=by
 refine loop_ofK hC (sp:=sp46) (lp:=lp46) (sw:=sw46) ⟨ok73 n,trivial⟩ ⟨ok74 (n + 4),trivial⟩ 0 [] (by kernel_rfl) rfl (fun k hk=>by cases hk) (by kernel_rfl) (fun ds=>((ds.getD 2 default).I - (ds.getD 3 default).I).toNat) fun ds rr h=>?_
 unfold G46_3 at h
 split at h
 ·rename_i m m2 k i l
  obtain ⟨hp,h⟩:=need_some h
  rw [yes_iff] at hp
  obtain ⟨h1,h2,h3,hi0,hi1,h4⟩:=hp
  refine ⟨by rw [fuelC]; simp; omega,?_⟩
  rw [show roundTK C (mkTab sp46 lp46 sw46) 46 (loopOf C.P 46 3) 0 l46_3 [m,m2,k,i,l] = _ from t46_3 m m2 k i l]
  obtain ⟨j,hj⟩:∃ j:Nat,i.I = j:=⟨i.I.toNat,by omega⟩
  simp only [hj,h1,h2,Int.toNat_natCast,upd1,rs_def,rg_def] at h hi0 hi1 h4 ⊢
  refine rd_if (fun hlt=>?_) fun hge=>?_
  ·rw [wrap_succ (by omega)]
   rw [show m.I.toNat - j = (m.I.toNat - (j + 1)) + 1 by omega] at h
   simp only [noneF] at h
   have hmu:((m.I.toNat:Int) - ((j + 1:Nat):Int)).toNat < (k.I - i.I).toNat:=by rw [hj,h1]; omega
   refine rd_dec (by omega) (rd_dec (by omega) (rd_ite (fun c=>?_) fun c=>?_))
   ·rw [beq_iff_eq] at c
    rw [if_pos c] at h
    refine rd_dec (by omega) (rd_dec (by omega) (rd_again ((need_yes ⟨by simp only [I_i,Int.toNat_natCast],by simp only [I_i,Int.toNat_natCast],by simp only [I_i,L_l,Int.toNat_natCast,len_rs]; exact h3,by simp only [I_i]; omega,by simp only [I_i]; omega,by simp only [I_i]; omega⟩).trans ?_) hmu))
    simp only [I_i,L_l,Int.toNat_natCast]
    exact h
   ·rw [beq_eq_false_iff_ne] at c
    rw [if_neg c] at h
    refine rd_again ((need_yes ⟨by simp only [I_i,Int.toNat_natCast],by simp only [I_i,Int.toNat_natCast],by simp only [I_i,L_l,Int.toNat_natCast]; exact h3,by simp only [I_i]; omega,by simp only [I_i]; omega,by simp only [I_i]; omega⟩).trans ?_) hmu
    simp only [I_i,L_l,Int.toNat_natCast]
    exact h
  ·rw [show m.I.toNat - j = 0 by omega] at h
   exact rd_out h
 ·cases h
theorem len_start (n v t:Int):(startS n v t).o.length = n.toNat:=by simp [startS,len_rs]
theorem res_len {m:Nat} {r:List (List D)} {s:Sr}:(resS m r s).length = s.o.length:=run_len _ _
theorem ok46 (n:Nat):FnOK C (n + 6) 46 (mkF s46 G46):=by
 refine fn_ofS hC (sp:=sp46) (lp:=lp46) (sw:=sw46) ⟨ok73 n,trivial⟩ ⟨ok74 (n + 4),trivial⟩ (by kernel_rfl) [3] (by kernel_rfl) (by kernel_rfl) (fun k hk L hL=>by
  simp at hk; subst hk; cases hL; exact ok46_3 n) fun ds r h=>?_
 unfold G46 at h
 split at h
 ·rename_i m r' v t
  obtain ⟨hp,h⟩:=need_some h
  rw [yes_iff] at hp
  obtain ⟨h0,h1,h2,h3,h4⟩:=hp
  refine (congrArg T.run (t46 m r' v t)).trans ?_
  have hz:(0:Int).toNat = 0:=rfl
  simp only [Int.toNat_natCast,hz,Nat.sub_zero]
  have hm:(m.I.toNat:Int) = m.I:=by omega
  refine go_yes ⟨h0,h1,h2,h3,h4⟩ (go_yes ⟨trivial,trivial,by rw [res_len,len_start]; exact Nat.le_refl _,by omega,by omega,by omega⟩ ?_)
  rw [hm]
  exact h
 ·cases h
noncomputable section
def clB (l:List (List D)) (i:Nat):Bool:=decide (0 ≤ ix (l.getD i []) 0 ∧ ix (l.getD i []) 0 < ix (l.getD i []) 1 ∧ ix (l.getD i []) 1 ≤ 100000 ∧ (0 < i → ix (l.getD (i - 1) []) 1 < ix (l.getD i []) 0))
def roadH (n:Int) (c:List D):Bool:=decide ((0 ≤ ix c 0 ∧ ix c 0 < n) ∧ (0 ≤ ix c 1 ∧ ix c 1 < n) ∧ ix c 0 ≠ ix c 1 ∧ (1 ≤ ix c 2 ∧ ix c 2 ≤ 10000) ∧ (lx c 3).length ≤ 20)
def roadB (n:Int) (c:List D):Bool:=roadH n c && allFrom (clB (lx c 3)) 0 (lx c 3).length
def netB (n:Int) (r:List (List D)):Bool:=decide ((1 ≤ n ∧ n ≤ 200) ∧ r.length ≤ 1000) && allFrom (fun i=>roadB n (r.getD i [])) 0 r.length
def fewR (r:List (List D)) (i:Nat):Bool:=decide ((lx (r.getD i []) 3).length ≤ 30)
def smallH (n:Int) (r:List (List D)):Bool:=decide ((r.length ≤ 16 ∨ 1000 < r.length) ∧ r.length ≤ 1100 ∧ (n ≤ 8 ∨ 200 < n))
def smallB (n:Int) (r:List (List D)):Bool:=smallH n r && allFrom (fewR r) 0 r.length
def hop1 (c:List D) (a x:List (List D)):List (List D):=
 if rg a (ix c 0).toNat < 0 then x
 else if rg x (ix c 1).toNat < 0 ∨ entW c (rg a (ix c 0).toNat) + ix c 2 < rg x (ix c 1).toNat then rs x (ix c 1).toNat (entW c (rg a (ix c 0).toNat) + ix c 2) else x
def hopF (r a:List (List D)):Nat → Nat → List (List D) → List (List D)
 | _,0,x=>x
 | i,k + 1,x=>hopF r a (i + 1) k (hop1 (r.getD i []) a x)
def reachF (r:List (List D)):Nat → List (List D) → List (List D)
 | 0,a=>a
 | k + 1,a=>reachF r k (hopF r a 0 r.length a)
def beginF (n v t:Int):List (List D):=rs (List.replicate n.toNat [.i (-1)]) v.toNat t
def okAt (n:Int) (k:Int) (a:List (List D)):Prop:=(a.length:Int) = n ∧ ∀ v,-1 ≤ rg a v ∧ rg a v ≤ 1099511627776 + 10000 * k
def G47 (ds:List D):T (List D):=match ds with
 | [n,a,b]=>.leaf [.b (within n.I a.I b.I)]
 | _=>.fail
def mkRd (a b c l:D):List D:=[.i a.I,.i b.I,.i c.I,.l l.L]
def G48 (ds:List D):T (List D):=match ds with
 | [n,a,b,c,l]=>.need (yes (1 ≤ n.I ∧ n.I ≤ 200)) (.leaf [.b (roadB n.I (mkRd a b c l))])
 | _=>.fail
def G48_4 (ds:List D):T (Ex × List D):=match ds with
 | [i,_,_,_,l]=>.need (yes (l.L.length ≤ 20 ∧ 0 ≤ i.I ∧ i.I ≤ l.L.length)) (.ite (allFrom (clB l.L) i.I.toNat (l.L.length - i.I.toNat)) (.leaf (.exit 0,[])) (.leaf (.ret,[.b false])))
 | _=>.fail
def G15 (ds:List D):T (List D):=match ds with
 | [n,r]=>.leaf [.b (smallB n.I r.L)]
 | _=>.fail
def G15_4 (ds:List D):T (Ex × List D):=match ds with
 | [i,_,r]=>.need (yes (r.L.length ≤ 1100 ∧ 0 ≤ i.I ∧ i.I ≤ r.L.length)) (.ite (allFrom (fewR r.L) i.I.toNat (r.L.length - i.I.toNat)) (.leaf (.exit 0,[])) (.leaf (.ret,[.b false])))
 | _=>.fail
def G18 (ds:List D):T (List D):=match ds with
 | [n,r]=>.leaf [.i (if netB n.I r.L then 0 else 2)]
 | _=>.fail
def G18_4 (ds:List D):T (Ex × List D):=match ds with
 | [r,m,i,n,_]=>.need (yes ((1 ≤ n.I ∧ n.I ≤ 200) ∧ r.L.length ≤ 1000 ∧ m.I = r.L.length ∧ 0 ≤ i.I ∧ i.I ≤ r.L.length)) (.ite (allFrom (fun j=>roadB n.I (r.L.getD j [])) i.I.toNat (r.L.length - i.I.toNat)) (.leaf (.exit 0,[])) (.leaf (.ret,[.i 2])))
 | _=>.fail
def G18_10 (ds:List D):T (Ex × List D):=match ds with
 | [last,r,m,i,l,m',j,n,r']=>.need (yes (l.L.length ≤ 20 ∧ m'.I = l.L.length ∧ 0 ≤ j.I ∧ j.I ≤ l.L.length ∧ last.I = if j.I = 0 then -1 else ix (l.L.getD (j.I.toNat - 1) []) 1))
     (.ite (allFrom (clB l.L) j.I.toNat (l.L.length - j.I.toNat)) (.leaf (.exit 2,[.l r.L,.i m.I,.i i.I,.i n.I,.l r'.L])) (.leaf (.ret,[.i 2])))
 | _=>.fail
def G19 (ds:List D):T (List D):=match ds with
 | [n,r]=>.leaf [.b (netB n.I r.L)]
 | _=>.fail
def G19_4 (ds:List D):T (Ex × List D):=match ds with
 | [i,n,r]=>.need (yes ((1 ≤ n.I ∧ n.I ≤ 200) ∧ r.L.length ≤ 1000 ∧ 0 ≤ i.I ∧ i.I ≤ r.L.length)) (.ite (allFrom (fun j=>roadB n.I (r.L.getD j [])) i.I.toNat (r.L.length - i.I.toNat)) (.leaf (.exit 0,[])) (.leaf (.ret,[.b false])))
 | _=>.fail
end
noncomputable def sp47:SpL:=[]
noncomputable def lp47:LpL:=[]
noncomputable def sw47:SwL:=[]
noncomputable def tab47:Tab:=mkTab sp47 lp47 sw47
noncomputable def sp48:SpL:=[(47,mkF s47 G47)]
noncomputable def lp48:LpL:=[(4,mkL l48_4 G48_4)]
noncomputable def sw48:SwL:=[]
noncomputable def tab48:Tab:=mkTab sp48 lp48 sw48
noncomputable def sp15:SpL:=[]
noncomputable def lp15:LpL:=[(4,mkL l15_4 G15_4)]
noncomputable def sw15:SwL:=[]
noncomputable def tab15:Tab:=mkTab sp15 lp15 sw15
noncomputable def sp18:SpL:=[(45,mkF s45 G45)]
noncomputable def lp18:LpL:=[(4,mkL l18_4 G18_4),(10,mkL l18_10 G18_10)]
noncomputable def sw18:SwL:=[]
noncomputable def tab18:Tab:=mkTab sp18 lp18 sw18
noncomputable def sp19:SpL:=[(47,mkF s47 G47),(48,mkF s48 G48)]
noncomputable def lp19:LpL:=[(4,mkL l19_4 G19_4)]
noncomputable def sw19:SwL:=[]
noncomputable def tab19:Tab:=mkTab sp19 lp19 sw19
set_option linter.unusedVariables false
set_option maxRecDepth 100000
theorem t47 (a b c:D):fnT C tab47 47 s47 [a,b,c] =
 T.ite (decide (a.I ≥ b.I)) (T.leaf [D.b (decide (a.I ≤ c.I))]) (T.leaf [D.b false]):=by kernel_rfl
theorem t48 (a b c d e:D):fnT C tab48 48 s48 [a,b,c,d,e] =
 T.ite (!within b.I (0:Int) (IntKind.i64.wrap (a.I - (1:Int)))) (T.leaf [D.b false]) (T.ite (!within c.I (0:Int) (IntKind.i64.wrap (a.I - (1:Int)))) (T.leaf [D.b false]) (T.ite (b.I == c.I) (T.leaf [D.b false]) (T.ite (!within d.I (1:Int) (10000:Int)) (T.leaf [D.b false]) (T.ite (decide ((e.L.length:Int) > (20:Int))) (T.leaf [D.b false]) (T.need (yes (e.L.length ≤ 20 ∧ (0:Int) ≤ (0:Int) ∧ (0:Int) ≤ (e.L.length:Int))) (T.ite (allFrom (clB e.L) (Int.toNat (0:Int)) (e.L.length - Int.toNat (0:Int))) (T.leaf [D.b true]) (T.leaf [D.b false]))))))):=by kernel_rfl
theorem t48_4 (a b c d e:D):roundT C tab48 48 (loopOf C.P 48 4) l48_4 [a,b,c,d,e] =
 T.ite (decide (a.I < (e.L.length:Int))) (T.need (decide ((0:Int) ≤ a.I ∧ a.I < (e.L.length:Int))) (T.ite (decide (D.I (List.getD (List.getD e.L a.I.toNat []) 0 default) < (0:Int))) (T.leaf (Rd.out Ex.ret [D.b false])) (T.ite (decide (D.I (List.getD (List.getD e.L a.I.toNat []) 0 default) ≥ D.I (List.getD (List.getD e.L a.I.toNat []) (0 + 1) default))) (T.leaf (Rd.out Ex.ret [D.b false])) (T.ite (decide (D.I (List.getD (List.getD e.L a.I.toNat []) (0 + 1) default) > (100000:Int))) (T.leaf (Rd.out Ex.ret [D.b false])) (T.ite (decide (a.I > (0:Int))) (T.need (decide ((0:Int) ≤ IntKind.i64.wrap (a.I - (1:Int)) ∧ IntKind.i64.wrap (a.I - (1:Int)) < (e.L.length:Int))) (T.ite (decide (D.I (List.getD (List.getD e.L a.I.toNat []) 0 default) ≤ D.I (List.getD (List.getD e.L (Int.toNat (IntKind.i64.wrap (a.I - (1:Int)))) []) (0 + 1) default))) (T.leaf (Rd.out Ex.ret [D.b false])) (T.leaf (Rd.again [D.i (IntKind.i64.wrap (a.I + (1:Int))),D.i b.I,D.i c.I,D.i d.I,D.l e.L])))) (T.leaf (Rd.again [D.i (IntKind.i64.wrap (a.I + (1:Int))),D.i b.I,D.i c.I,D.i d.I,D.l e.L]))))))) (T.leaf (Rd.out (Ex.exit 0) [])):=by kernel_rfl
theorem t15 (a b:D):fnT C tab15 15 s15 [a,b] =
 T.ite (decide ((b.L.length:Int) > (16:Int))) (T.ite (decide ((b.L.length:Int) ≤ (1000:Int))) (T.leaf [D.b false]) (T.ite (decide ((b.L.length:Int) > (1100:Int))) (T.leaf [D.b false]) (T.ite (decide (a.I > (8:Int))) (T.ite (decide (a.I ≤ (200:Int))) (T.leaf [D.b false]) (T.need (yes (b.L.length ≤ 1100 ∧ (0:Int) ≤ (0:Int) ∧ (0:Int) ≤ (b.L.length:Int))) (T.ite (allFrom (fewR b.L) (Int.toNat (0:Int)) (b.L.length - Int.toNat (0:Int))) (T.leaf [D.b true]) (T.leaf [D.b false])))) (T.need (yes (b.L.length ≤ 1100 ∧ (0:Int) ≤ (0:Int) ∧ (0:Int) ≤ (b.L.length:Int))) (T.ite (allFrom (fewR b.L) (Int.toNat (0:Int)) (b.L.length - Int.toNat (0:Int))) (T.leaf [D.b true]) (T.leaf [D.b false])))))) (T.ite (decide ((b.L.length:Int) > (1100:Int))) (T.leaf [D.b false]) (T.ite (decide (a.I > (8:Int))) (T.ite (decide (a.I ≤ (200:Int))) (T.leaf [D.b false]) (T.need (yes (b.L.length ≤ 1100 ∧ (0:Int) ≤ (0:Int) ∧ (0:Int) ≤ (b.L.length:Int))) (T.ite (allFrom (fewR b.L) (Int.toNat (0:Int)) (b.L.length - Int.toNat (0:Int))) (T.leaf [D.b true]) (T.leaf [D.b false])))) (T.need (yes (b.L.length ≤ 1100 ∧ (0:Int) ≤ (0:Int) ∧ (0:Int) ≤ (b.L.length:Int))) (T.ite (allFrom (fewR b.L) (Int.toNat (0:Int)) (b.L.length - Int.toNat (0:Int))) (T.leaf [D.b true]) (T.leaf [D.b false]))))):=by kernel_rfl
theorem t15_4 (a b c:D):roundT C tab15 15 (loopOf C.P 15 4) l15_4 [a,b,c] =
 T.ite (decide (a.I < (c.L.length:Int))) (T.need (decide ((0:Int) ≤ a.I ∧ a.I < (c.L.length:Int))) (T.ite (decide ((↑(List.length (D.L (List.getD (List.getD c.L a.I.toNat []) (0 + 1 + 1 + 1) default))):Int) > (30:Int))) (T.leaf (Rd.out Ex.ret [D.b false])) (T.leaf (Rd.again [D.i (IntKind.i64.wrap (a.I + (1:Int))),D.i b.I,D.l c.L])))) (T.leaf (Rd.out (Ex.exit 0) [])):=by kernel_rfl
theorem t18 (a b:D):fnT C tab18 18 s18 [a,b] =
 T.ite (!within a.I (1:Int) (200:Int)) (T.leaf [D.i 2]) (T.ite (decide ((b.L.length:Int) > (1000:Int))) (T.leaf [D.i 2]) (T.need (yes (((1:Int) ≤ a.I ∧ a.I ≤ (200:Int)) ∧ b.L.length ≤ 1000 ∧ (b.L.length:Int) = (b.L.length:Int) ∧ (0:Int) ≤ (0:Int) ∧ (0:Int) ≤ (b.L.length:Int))) (T.ite (allFrom (fun j=>roadB a.I (List.getD b.L j [])) (Int.toNat (0:Int)) (b.L.length - Int.toNat (0:Int))) (T.leaf [D.i 0]) (T.leaf [D.i 2])))):=by kernel_rfl
theorem t18_4 (a b c d e:D):roundT C tab18 18 (loopOf C.P 18 4) l18_4 [a,b,c,d,e] =
 T.ite (decide (c.I < b.I)) (T.need (decide ((0:Int) ≤ c.I ∧ c.I < (a.L.length:Int))) (T.ite (!within (D.I (List.getD (List.getD a.L c.I.toNat []) 0 default)) (0:Int) (IntKind.i64.wrap (d.I - (1:Int)))) (T.leaf (Rd.out Ex.ret [D.i 2])) (T.ite (!within (D.I (List.getD (List.getD a.L c.I.toNat []) (0 + 1) default)) (0:Int) (IntKind.i64.wrap (d.I - (1:Int)))) (T.leaf (Rd.out Ex.ret [D.i 2])) (T.ite (D.I (List.getD (List.getD a.L c.I.toNat []) 0 default) == D.I (List.getD (List.getD a.L c.I.toNat []) (0 + 1) default)) (T.leaf (Rd.out Ex.ret [D.i 2])) (T.ite (!within (D.I (List.getD (List.getD a.L c.I.toNat []) (0 + 1 + 1) default)) (1:Int) (10000:Int)) (T.leaf (Rd.out Ex.ret [D.i 2])) (T.ite (decide ((↑(List.length (D.L (List.getD (List.getD a.L c.I.toNat []) (0 + 1 + 1 + 1) default))):Int) > (20:Int))) (T.leaf (Rd.out Ex.ret [D.i 2])) (T.need (yes (List.length (D.L (List.getD (List.getD a.L c.I.toNat []) (0 + 1 + 1 + 1) default)) ≤ 20 ∧ (↑(List.length (D.L (List.getD (List.getD a.L c.I.toNat []) (0 + 1 + 1 + 1) default))):Int) = (↑(List.length (D.L (List.getD (List.getD a.L c.I.toNat []) (0 + 1 + 1 + 1) default))):Int) ∧ (0:Int) ≤ (0:Int) ∧ (0:Int) ≤ (↑(List.length (D.L (List.getD (List.getD a.L c.I.toNat []) (0 + 1 + 1 + 1) default))):Int) ∧ (-1:Int) = if (0:Int) = (0:Int) then (-1:Int) else ix (List.getD (D.L (List.getD (List.getD a.L c.I.toNat []) (0 + 1 + 1 + 1) default)) (Int.toNat (0:Int) - 1) []) 1)) (T.ite (allFrom (clB (D.L (List.getD (List.getD a.L c.I.toNat []) (0 + 1 + 1 + 1) default))) (Int.toNat (0:Int)) (List.length (D.L (List.getD (List.getD a.L c.I.toNat []) (0 + 1 + 1 + 1) default)) - Int.toNat (0:Int))) (T.leaf (Rd.again [D.l a.L,D.i b.I,D.i (IntKind.i64.wrap (c.I + (1:Int))),D.i d.I,D.l e.L])) (T.leaf (Rd.out Ex.ret [D.i 2])))))))))) (T.leaf (Rd.out (Ex.exit 0) [])):=by kernel_rfl
theorem t18_10 (a b c d e f g h i:D):roundT C tab18 18 (loopOf C.P 18 10) l18_10 [a,b,c,d,e,f,g,h,i] =
 T.ite (decide (g.I < f.I)) (T.need (decide ((0:Int) ≤ g.I ∧ g.I < (e.L.length:Int))) (T.ite (decide (D.I (List.getD (List.getD e.L g.I.toNat []) 0 default) ≤ a.I)) (T.leaf (Rd.out Ex.ret [D.i 2])) (T.ite (decide (D.I (List.getD (List.getD e.L g.I.toNat []) 0 default) < (0:Int))) (T.leaf (Rd.out Ex.ret [D.i 2])) (T.ite (decide (D.I (List.getD (List.getD e.L g.I.toNat []) 0 default) ≥ D.I (List.getD (List.getD e.L g.I.toNat []) (0 + 1) default))) (T.leaf (Rd.out Ex.ret [D.i 2])) (T.ite (decide (D.I (List.getD (List.getD e.L g.I.toNat []) (0 + 1) default) > (100000:Int))) (T.leaf (Rd.out Ex.ret [D.i 2])) (T.leaf (Rd.again [D.i (D.I (List.getD (List.getD e.L g.I.toNat []) (0 + 1) default)),D.l b.L,D.i c.I,D.i d.I,D.l e.L,D.i f.I,D.i (IntKind.i64.wrap (g.I + (1:Int))),D.i h.I,D.l i.L]))))))) (T.leaf (Rd.out (Ex.exit 2) [D.l b.L,D.i c.I,D.i d.I,D.i h.I,D.l i.L])):=by kernel_rfl
theorem t19 (a b:D):fnT C tab19 19 s19 [a,b] =
 T.ite (!within a.I (1:Int) (200:Int)) (T.leaf [D.b false]) (T.ite (decide ((b.L.length:Int) > (1000:Int))) (T.leaf [D.b false]) (T.need (yes (((1:Int) ≤ a.I ∧ a.I ≤ (200:Int)) ∧ b.L.length ≤ 1000 ∧ (0:Int) ≤ (0:Int) ∧ (0:Int) ≤ (b.L.length:Int))) (T.ite (allFrom (fun j=>roadB a.I (List.getD b.L j [])) (Int.toNat (0:Int)) (b.L.length - Int.toNat (0:Int))) (T.leaf [D.b true]) (T.leaf [D.b false])))):=by kernel_rfl
theorem t19_4 (a b c:D):roundT C tab19 19 (loopOf C.P 19 4) l19_4 [a,b,c] =
 T.ite (decide (a.I < (c.L.length:Int))) (T.need (decide ((0:Int) ≤ a.I ∧ a.I < (c.L.length:Int))) (T.need (yes ((1:Int) ≤ b.I ∧ b.I ≤ (200:Int))) (T.ite (!roadB b.I (mkRd (D.i (D.I (List.getD (List.getD c.L a.I.toNat []) 0 default))) (D.i (D.I (List.getD (List.getD c.L a.I.toNat []) (0 + 1) default))) (D.i (D.I (List.getD (List.getD c.L a.I.toNat []) (0 + 1 + 1) default))) (D.l (D.L (List.getD (List.getD c.L a.I.toNat []) (0 + 1 + 1 + 1) default))))) (T.leaf (Rd.out Ex.ret [D.b false])) (T.leaf (Rd.again [D.i (IntKind.i64.wrap (a.I + (1:Int))),D.i b.I,D.l c.L]))))) (T.leaf (Rd.out (Ex.exit 0) [])):=by kernel_rfl
set_option maxRecDepth 100000
theorem ok47 (n:Nat):FnOK C (n + 1) 47 (mkF s47 G47):=by
 refine fn_ofS hC (sp:=sp47) (lp:=lp47) (sw:=sw47) trivial trivial (by kernel_rfl) [] (by kernel_rfl) rfl (fun k hk=>by cases hk) fun ds r h=>?_
 unfold G47 at h
 split at h
 ·rename_i a b c
  cases h
  refine (congrArg T.run (t47 a b c)).trans (go_if (fun h1=>?_) fun h1=>?_)
  ·rw [within_dec]
   simp only [run_leaf,show (b.I ≤ a.I ∧ a.I ≤ c.I) ↔ a.I ≤ c.I from ⟨fun h=>h.2,fun h=>⟨h1,h⟩⟩]
  ·rw [within_dec,decide_eq_false (fun h=>h1 h.1)]
   rfl
 ·cases h
theorem ok48_4 (n:Nat):LoopSim C (n + 1) 48 (loopOf C.P 48 4) (mkL l48_4 G48_4):=by
 refine loop_ofK hC (sp:=sp48) (lp:=lp48) (sw:=sw48) ⟨ok47 n,trivial⟩ trivial 0 [] (by kernel_rfl) rfl (fun k hk=>by cases hk) (by kernel_rfl) (fun ds=>(((ds.getD 4 default).L.length:Int) - (ds.getD 0 default).I).toNat) fun ds rr h=>?_
 unfold G48_4 at h
 split at h
 ·rename_i i a b c l
  obtain ⟨hp,h⟩:=need_some h
  rw [yes_iff] at hp
  obtain ⟨h1,hi0,hi1⟩:=hp
  refine ⟨by rw [fuelC]; simp; omega,?_⟩
  rw [show roundTK C (mkTab sp48 lp48 sw48) 48 (loopOf C.P 48 4) 0 l48_4 [i,a,b,c,l] = _ from t48_4 i a b c l]
  obtain ⟨j,hj⟩:∃ j:Nat,i.I = j:=⟨i.I.toNat,by omega⟩
  simp only [hj,Int.toNat_natCast,Nat.reduceAdd,ix_def] at h hi0 hi1 ⊢
  refine rd_if (fun hlt=>?_) fun hge=>rd_out (all_end h (by omega))
  obtain ⟨s1,s2⟩:=all_step h (by omega:j < l.L.length)
  unfold clB at s1 s2
  rw [wrap_succ (by omega)]
  have hmu:((l.L.length:Int) - ((j + 1:Nat):Int)).toNat < ((l.L.length:Int) - i.I).toNat:=by rw [hj]; omega
  have key:(0 ≤ ix (l.L.getD j []) 0 ∧ ix (l.L.getD j []) 0 < ix (l.L.getD j []) 1 ∧ ix (l.L.getD j []) 1 ≤ 100000 ∧ (0 < j → ix (l.L.getD (j - 1) []) 1 < ix (l.L.getD j []) 0)) → (G48_4 [.i ((j + 1:Nat):Int),.i a.I,.i b.I,.i c.I,.l l.L]).run = some rr:=fun hq=>
   (need_yes ⟨h1,by simp only [I_i]; omega,by simp only [I_i,L_l]; omega⟩).trans (s2 (decide_eq_true hq))
  refine rd_dec (by omega) (rd_if (fun c1=>rd_out (s1 (decide_eq_false (by omega)))) fun c1=>rd_if (fun c2=>rd_out (s1 (decide_eq_false (by omega)))) fun c2=>rd_if (fun c3=>rd_out (s1 (decide_eq_false (by omega)))) fun c3=>rd_if (fun c4=>?_) fun c4=>rd_again (key ⟨by omega,by omega,by omega,fun h=>by omega⟩) hmu)
  rw [wrap_pred (by omega),show ((j:Int) - 1).toNat = j - 1 by omega]
  exact rd_dec (by omega) (rd_if (fun c5=>rd_out (s1 (decide_eq_false fun h=>by have:=h.2.2.2 (by omega); omega))) fun c5=>rd_again (key ⟨by omega,by omega,by omega,fun h=>by omega⟩) hmu)
 ·cases h
theorem ok48 (n:Nat):FnOK C (n + 2) 48 (mkF s48 G48):=by
 refine fn_ofS hC (sp:=sp48) (lp:=lp48) (sw:=sw48) ⟨ok47 n,trivial⟩ trivial (by kernel_rfl) [4] (by kernel_rfl) (by kernel_rfl) (fun k hk L hL=>by
  simp at hk; subst hk; cases hL; exact ok48_4 n) fun ds r h=>?_
 unfold G48 at h
 split at h
 ·rename_i m a b c l
  obtain ⟨hp,h⟩:=need_some h
  rw [yes_iff] at hp
  refine (congrArg T.run (t48 m a b c l)).trans ?_
  rw [← h,wrap_id (by omega) (by omega),show roadB m.I (mkRd a b c l) = (decide ((0 ≤ a.I ∧ a.I < m.I) ∧ (0 ≤ b.I ∧ b.I < m.I) ∧ a.I ≠ b.I ∧ (1 ≤ c.I ∧ c.I ≤ 10000) ∧ l.L.length ≤ 20) && allFrom (clB l.L) 0 l.L.length) from rfl]
  simp only [within_dec]
  refine go_not (fun c1=>?_) fun c1=>go_not (fun c2=>?_) fun c2=>go_ite (fun c3=>?_) fun c3=>go_not (fun c4=>?_) fun c4=>go_if (fun c5=>?_) fun c5=>?_
  ·have c1:=of_decide_eq_false c1; rw [decide_eq_false (by omega)]; rfl
  ·have c2:=of_decide_eq_false c2; rw [decide_eq_false (by omega)]; rfl
  ·have c3:=eq_of_beq c3; rw [decide_eq_false (by omega)]; rfl
  ·have c4:=of_decide_eq_false c4; rw [decide_eq_false (by omega)]; rfl
  ·rw [decide_eq_false (by omega)]; rfl
  ·have c1:=of_decide_eq_true c1
   have c2:=of_decide_eq_true c2
   have c3:=ne_of_beq_false c3
   have c4:=of_decide_eq_true c4
   rw [decide_eq_true (by omega),Bool.true_and]
   simp only [Int.toNat_zero,Nat.sub_zero]
   exact go_yes ⟨by omega,by omega,by omega⟩ (go_ite (fun c6=>go_leaf (by rw [c6]; rfl)) fun c6=>go_leaf (by rw [c6]; rfl))
 ·cases h
theorem ok15_4 (n:Nat):LoopSim C n 15 (loopOf C.P 15 4) (mkL l15_4 G15_4):=by
 refine loop_ofK hC (sp:=sp15) (lp:=lp15) (sw:=sw15) trivial trivial 0 [] (by kernel_rfl) rfl (fun k hk=>by cases hk) (by kernel_rfl) (fun ds=>(((ds.getD 2 default).L.length:Int) - (ds.getD 0 default).I).toNat) fun ds rr h=>?_
 unfold G15_4 at h
 split at h
 ·rename_i i a l
  obtain ⟨hp,h⟩:=need_some h
  rw [yes_iff] at hp
  obtain ⟨h1,hi0,hi1⟩:=hp
  refine ⟨by rw [fuelC]; simp; omega,?_⟩
  rw [show roundTK C (mkTab sp15 lp15 sw15) 15 (loopOf C.P 15 4) 0 l15_4 [i,a,l] = _ from t15_4 i a l]
  obtain ⟨j,hj⟩:∃ j:Nat,i.I = j:=⟨i.I.toNat,by omega⟩
  simp only [hj,Int.toNat_natCast,Nat.reduceAdd,lx_def] at h hi0 hi1 ⊢
  refine rd_if (fun hlt=>?_) fun hge=>rd_out (all_end h (by omega))
  obtain ⟨s1,s2⟩:=all_step h (by omega:j < l.L.length)
  unfold fewR at s1 s2
  rw [wrap_succ (by omega)]
  refine rd_dec (by omega) (rd_if (fun c1=>rd_out (s1 (decide_eq_false (by omega)))) fun c1=>?_)
  exact rd_again ((need_yes ⟨h1,by simp only [I_i]; omega,by simp only [I_i,L_l]; omega⟩).trans (s2 (decide_eq_true (by omega)))) (show ((l.L.length:Int) - ((j + 1:Nat):Int)).toNat < ((l.L.length:Int) - i.I).toNat by rw [hj]; omega)
 ·cases h
theorem ok15 (n:Nat):FnOK C (n + 1) 15 (mkF s15 G15):=by
 refine fn_ofS hC (sp:=sp15) (lp:=lp15) (sw:=sw15) trivial trivial (by kernel_rfl) [4] (by kernel_rfl) (by kernel_rfl) (fun k hk L hL=>by
  simp at hk; subst hk; cases hL; exact ok15_4 n) fun ds r h=>?_
 unfold G15 at h
 split at h
 ·rename_i a l
  refine (congrArg T.run (t15 a l)).trans ?_
  rw [← show _ = some r from h]
  show _ = some [D.b (smallB a.I l.L)]
  unfold smallB smallH
  have no:¬ ((l.L.length ≤ 16 ∨ 1000 < l.L.length) ∧ l.L.length ≤ 1100 ∧ (a.I ≤ 8 ∨ 200 < a.I)) → (T.leaf [D.b false]).run = some [D.b (decide ((l.L.length ≤ 16 ∨ 1000 < l.L.length) ∧ l.L.length ≤ 1100 ∧ (a.I ≤ 8 ∨ 200 < a.I)) && allFrom (fewR l.L) 0 l.L.length)]:=fun hn=>by rw [decide_eq_false hn]; rfl
  have ys:((l.L.length ≤ 16 ∨ 1000 < l.L.length) ∧ l.L.length ≤ 1100 ∧ (a.I ≤ 8 ∨ 200 < a.I)) → (T.need (yes (l.L.length ≤ 1100 ∧ (0:Int) ≤ (0:Int) ∧ (0:Int) ≤ (l.L.length:Int))) (T.ite (allFrom (fewR l.L) (0:Int).toNat (l.L.length - (0:Int).toNat)) (T.leaf [D.b true]) (T.leaf [D.b false]))).run = some [D.b (decide ((l.L.length ≤ 16 ∨ 1000 < l.L.length) ∧ l.L.length ≤ 1100 ∧ (a.I ≤ 8 ∨ 200 < a.I)) && allFrom (fewR l.L) 0 l.L.length)]:=fun hy=>by
   rw [decide_eq_true hy,Bool.true_and]
   simp only [Int.toNat_zero,Nat.sub_zero]
   exact go_yes ⟨hy.2.1,by omega,by omega⟩ (go_ite (fun c6=>go_leaf (by rw [c6])) fun c6=>go_leaf (by rw [c6]))
  refine go_if (fun c1=>go_if (fun c2=>no (by omega)) fun c2=>go_if (fun c3=>no (by omega)) fun c3=>go_if (fun c4=>go_if (fun c5=>no (by omega)) fun c5=>ys (by omega)) fun c4=>ys (by omega)) fun c1=>go_if (fun c3=>no (by omega)) fun c3=>go_if (fun c4=>go_if (fun c5=>no (by omega)) fun c5=>ys (by omega)) fun c4=>ys (by omega)
 ·cases h
theorem ok19_4 (n:Nat):LoopSim C (n + 2) 19 (loopOf C.P 19 4) (mkL l19_4 G19_4):=by
 refine loop_ofK hC (sp:=sp19) (lp:=lp19) (sw:=sw19) ⟨ok47 (n + 1),ok48 n,trivial⟩ trivial 0 [] (by kernel_rfl) rfl (fun k hk=>by cases hk) (by kernel_rfl) (fun ds=>(((ds.getD 2 default).L.length:Int) - (ds.getD 0 default).I).toNat) fun ds rr h=>?_
 unfold G19_4 at h
 split at h
 ·rename_i i a l
  obtain ⟨hp,h⟩:=need_some h
  rw [yes_iff] at hp
  obtain ⟨h0,h1,hi0,hi1⟩:=hp
  refine ⟨by rw [fuelC]; simp; omega,?_⟩
  rw [show roundTK C (mkTab sp19 lp19 sw19) 19 (loopOf C.P 19 4) 0 l19_4 [i,a,l] = _ from t19_4 i a l]
  obtain ⟨j,hj⟩:∃ j:Nat,i.I = j:=⟨i.I.toNat,by omega⟩
  simp only [hj,Int.toNat_natCast,Nat.reduceAdd,lx_def,ix_def] at h hi0 hi1 ⊢
  refine rd_if (fun hlt=>?_) fun hge=>rd_out (all_end h (by omega))
  obtain ⟨s1,s2⟩:=all_step h (by omega:j < l.L.length)
  rw [wrap_succ (by omega)]
  refine rd_dec (by omega) (rd_yes h0 (rd_not (fun c1=>rd_out (s1 c1)) fun c1=>?_))
  exact rd_again ((need_yes ⟨h0,h1,by simp only [I_i]; omega,by simp only [I_i,L_l]; omega⟩).trans (s2 c1)) (show ((l.L.length:Int) - ((j + 1:Nat):Int)).toNat < ((l.L.length:Int) - i.I).toNat by rw [hj]; omega)
 ·cases h
theorem ok19 (n:Nat):FnOK C (n + 3) 19 (mkF s19 G19):=by
 refine fn_ofS hC (sp:=sp19) (lp:=lp19) (sw:=sw19) ⟨ok47 (n + 1),ok48 n,trivial⟩ trivial (by kernel_rfl) [4] (by kernel_rfl) (by kernel_rfl) (fun k hk L hL=>by
  simp at hk; subst hk; cases hL; exact ok19_4 n) fun ds r h=>?_
 unfold G19 at h
 split at h
 ·rename_i a l
  refine (congrArg T.run (t19 a l)).trans ?_
  rw [← show _ = some r from h]
  show _ = some [D.b (netB a.I l.L)]
  unfold netB
  simp only [within_dec]
  refine go_not (fun c1=>?_) fun c1=>go_if (fun c2=>?_) fun c2=>?_
  ·have c1:=of_decide_eq_false c1; rw [decide_eq_false (by omega)]; rfl
  ·rw [decide_eq_false (by omega)]; rfl
  ·have c1:=of_decide_eq_true c1
   rw [decide_eq_true (by omega),Bool.true_and]
   simp only [Int.toNat_zero,Nat.sub_zero]
   exact go_yes ⟨c1,by omega,by omega,by omega⟩ (go_ite (fun c6=>go_leaf (by rw [c6])) fun c6=>go_leaf (by rw [c6]))
 ·cases h
theorem ok18_10 (n:Nat):LoopSim C (n + 1) 18 (loopOf C.P 18 10) (mkL l18_10 G18_10):=by
 refine loop_ofK hC (sp:=sp18) (lp:=lp18) (sw:=sw18) ⟨ok45 n,trivial⟩ trivial 0 [] (by kernel_rfl) rfl (fun k hk=>by cases hk) (by kernel_rfl) (fun ds=>(((ds.getD 4 default).L.length:Int) - (ds.getD 6 default).I).toNat) fun ds rr h=>?_
 unfold G18_10 at h
 split at h
 ·rename_i la r m i l m' j n' r'
  obtain ⟨hp,h⟩:=need_some h
  rw [yes_iff] at hp
  obtain ⟨h1,hm,hi0,hi1,hla⟩:=hp
  refine ⟨by rw [fuelC]; simp; omega,?_⟩
  rw [show roundTK C (mkTab sp18 lp18 sw18) 18 (loopOf C.P 18 10) 0 l18_10 [la,r,m,i,l,m',j,n',r'] = _ from t18_10 la r m i l m' j n' r']
  obtain ⟨k,hk⟩:∃ k:Nat,j.I = k:=⟨j.I.toNat,by omega⟩
  simp only [hk,hm,Int.toNat_natCast,Nat.reduceAdd,ix_def] at h hi0 hi1 hla ⊢
  refine rd_if (fun hlt=>?_) fun hge=>rd_out (all_end h (by omega))
  obtain ⟨s1,s2⟩:=all_step h (by omega:k < l.L.length)
  unfold clB at s1 s2
  rw [wrap_succ (by omega)]
  have hla2:(k = 0 ∧ la.I = -1) ∨ (0 < k ∧ la.I = ix (l.L.getD (k - 1) []) 1):=by
   by_cases h0:(k:Int) = 0
   ·rw [if_pos h0] at hla; exact .inl ⟨by omega,hla⟩
   ·rw [if_neg h0] at hla; exact .inr ⟨by omega,hla⟩
  refine rd_dec (by omega) (rd_if (fun c1=>?_) fun c1=>rd_if (fun c2=>rd_out (s1 (decide_eq_false (by omega)))) fun c2=>rd_if (fun c3=>rd_out (s1 (decide_eq_false (by omega)))) fun c3=>rd_if (fun c4=>rd_out (s1 (decide_eq_false (by omega)))) fun c4=>?_)
  ·refine rd_out (s1 (decide_eq_false fun hn=>?_))
   rcases hla2 with ⟨e1,e2⟩ | ⟨e1,e2⟩
   ·omega
   ·have:=hn.2.2.2 e1; omega
  ·refine rd_again ((need_yes ⟨h1,by simp only [I_i,L_l],by simp only [I_i]; omega,by simp only [I_i,L_l]; omega,?_⟩).trans (s2 (decide_eq_true ⟨by omega,by omega,by omega,fun h=>by rcases hla2 with ⟨e1,e2⟩ | ⟨e1,e2⟩ <;> omega⟩))) (show ((l.L.length:Int) - ((k + 1:Nat):Int)).toNat < ((l.L.length:Int) - j.I).toNat by rw [hk]; omega)
   simp only [I_i,L_l,Int.toNat_natCast,Nat.add_sub_cancel]
   rw [if_neg (by omega)]
 ·cases h
theorem ok18_4 (n:Nat):LoopSim C (n + 1) 18 (loopOf C.P 18 4) (mkL l18_4 G18_4):=by
 refine loop_ofK hC (sp:=sp18) (lp:=lp18) (sw:=sw18) ⟨ok45 n,trivial⟩ trivial 0 [10] (by kernel_rfl) (by kernel_rfl) (fun k hk L hL=>by simp at hk; subst hk; cases hL; exact ok18_10 n) (by kernel_rfl) (fun ds=>(((ds.getD 0 default).L.length:Int) - (ds.getD 2 default).I).toNat) fun ds rr h=>?_
 unfold G18_4 at h
 split at h
 ·rename_i l m i a r'
  obtain ⟨hp,h⟩:=need_some h
  rw [yes_iff] at hp
  obtain ⟨h0,h1,hm,hi0,hi1⟩:=hp
  refine ⟨by rw [fuelC]; simp; omega,?_⟩
  rw [show roundTK C (mkTab sp18 lp18 sw18) 18 (loopOf C.P 18 4) 0 l18_4 [l,m,i,a,r'] = _ from t18_4 l m i a r']
  obtain ⟨j,hj⟩:∃ j:Nat,i.I = j:=⟨i.I.toNat,by omega⟩
  simp only [hj,hm,Int.toNat_natCast,Nat.reduceAdd,lx_def,ix_def,within_dec] at h hi0 hi1 ⊢
  refine rd_if (fun hlt=>?_) fun hge=>rd_out (all_end h (by omega))
  obtain ⟨s1,s2⟩:=all_step h (by omega:j < l.L.length)
  rw [wrap_succ (by omega),wrap_id (by omega) (by omega)]
  unfold roadB roadH at s1 s2
  generalize l.L.getD j [] = c at *
  have no:¬ ((0 ≤ ix c 0 ∧ ix c 0 < a.I) ∧ (0 ≤ ix c 1 ∧ ix c 1 < a.I) ∧ ix c 0 ≠ ix c 1 ∧ (1 ≤ ix c 2 ∧ ix c 2 ≤ 10000) ∧ (lx c 3).length ≤ 20) → some (Ex.ret,[D.i 2]) = some rr:=fun hn=>s1 (by rw [decide_eq_false hn]; rfl)
  refine rd_dec (by omega) (rd_not (fun c1=>?_) fun c1=>rd_not (fun c2=>?_) fun c2=>rd_ite (fun c3=>?_) fun c3=>rd_not (fun c4=>?_) fun c4=>rd_if (fun c5=>rd_out (no (by omega))) fun c5=>?_)
  ·have c1:=of_decide_eq_false c1; exact rd_out (no (by omega))
  ·have c2:=of_decide_eq_false c2; exact rd_out (no (by omega))
  ·have c3:=eq_of_beq c3; exact rd_out (no (by omega))
  ·have c4:=of_decide_eq_false c4; exact rd_out (no (by omega))
  ·have c1:=of_decide_eq_true c1
   have c2:=of_decide_eq_true c2
   have c3:=ne_of_beq_false c3
   have c4:=of_decide_eq_true c4
   rw [decide_eq_true (by omega),Bool.true_and] at s1 s2
   refine rd_yes ⟨by omega,trivial,by omega,by omega,by simp⟩ ?_
   simp only [Int.toNat_zero,Nat.sub_zero]
   refine rd_ite (fun c6=>?_) fun c6=>rd_out (s1 c6)
   exact rd_again ((need_yes ⟨h0,h1,by simp only [I_i,L_l],by simp only [I_i]; omega,by simp only [I_i,L_l]; omega⟩).trans (s2 c6)) (show ((l.L.length:Int) - ((j + 1:Nat):Int)).toNat < ((l.L.length:Int) - i.I).toNat by rw [hj]; omega)
 ·cases h
theorem ok18 (n:Nat):FnOK C (n + 2) 18 (mkF s18 G18):=by
 refine fn_ofS hC (sp:=sp18) (lp:=lp18) (sw:=sw18) ⟨ok45 n,trivial⟩ trivial (by kernel_rfl) [4] (by kernel_rfl) (by kernel_rfl) (fun k hk L hL=>by
  simp at hk; subst hk; cases hL; exact ok18_4 n) fun ds r h=>?_
 unfold G18 at h
 split at h
 ·rename_i a l
  refine (congrArg T.run (t18 a l)).trans ?_
  rw [← show _ = some r from h]
  show _ = some [D.i (if netB a.I l.L = true then 0 else 2)]
  unfold netB
  simp only [within_dec]
  refine go_not (fun c1=>?_) fun c1=>go_if (fun c2=>?_) fun c2=>?_
  ·have c1:=of_decide_eq_false c1; rw [decide_eq_false (by omega)]; rfl
  ·rw [decide_eq_false (by omega)]; rfl
  ·have c1:=of_decide_eq_true c1
   rw [decide_eq_true (by omega),Bool.true_and]
   simp only [Int.toNat_zero,Nat.sub_zero]
   exact go_yes ⟨c1,by omega,trivial,by omega,by omega⟩ (go_ite (fun c6=>go_leaf (by rw [c6]; rfl)) fun c6=>go_leaf (by rw [c6]; rfl))
 ·cases h
theorem all_at {p:Nat → Bool}:∀ (k i:Nat),allFrom p i k = true ↔ ∀ j,i ≤ j → j < i + k → p j = true
 | 0,i=>⟨fun _ j h1 h2=>by omega,fun _=>rfl⟩
 | k + 1,i=>by
   simp only [allFrom,Bool.and_eq_true,all_at k (i + 1)]
   refine ⟨fun ⟨h1,h2⟩ j h3 h4=>?_,fun h=>⟨h i (Nat.le_refl _) (by omega),fun j h1 h2=>h j (by omega) (by omega)⟩⟩
   by_cases e:j = i
   ·subst e; exact h1
   ·exact h2 j (by omega) (by omega)
theorem net_parts {n:Int} {r:List (List D)} (h:netB n r = true):(1 ≤ n ∧ n ≤ 200) ∧ r.length ≤ 1000 ∧ ∀ i,i < r.length → roadB n (r.getD i []) = true:=by
 unfold netB at h
 rw [Bool.and_eq_true,decide_eq_true_iff,all_at] at h
 exact ⟨h.1.1,h.1.2,fun i hi=>h.2 i (Nat.zero_le _) (by omega)⟩
theorem road_parts {n:Int} {c:List D} (h:roadB n c = true):(0 ≤ ix c 0 ∧ ix c 0 < n) ∧ (0 ≤ ix c 1 ∧ ix c 1 < n) ∧ (1 ≤ ix c 2 ∧ ix c 2 ≤ 10000) ∧ (lx c 3).length ≤ 20 ∧ ∀ i,i < (lx c 3).length → clB (lx c 3) i = true:=by
 unfold roadB roadH at h
 rw [Bool.and_eq_true,decide_eq_true_iff,all_at] at h
 exact ⟨h.1.1,h.1.2.1,h.1.2.2.2.1,h.1.2.2.2.2,fun i hi=>h.2 i (Nat.zero_le _) (by omega)⟩
theorem cl_at {l:List (List D)} (h:∀ i,i < l.length → clB l i = true) (i:Nat):(0 ≤ ix (l.getD i []) 0 ∧ ix (l.getD i []) 0 ≤ 100000) ∧ 0 ≤ ix (l.getD i []) 1 ∧ ix (l.getD i []) 1 ≤ 100000:=by
 by_cases hi:i < l.length
 ·have:=h i hi
  unfold clB at this
  rw [decide_eq_true_iff] at this
  omega
 ·rw [List.getD_eq_getElem?_getD,List.getElem?_eq_none (by omega)]
  have e:∀ k,ix (Option.getD (none:Option (List D)) []) k = 0:=fun k=>rfl
  rw [e,e]
  omega
theorem road_okC {n:Int} {c:List D} (h:roadB n c = true):okT (ix c 2) ∧ okC (lx c 3):=by
 obtain ⟨-,-,h1,h2,h3⟩:=road_parts h
 refine ⟨by unfold okT; omega,?_,fun j=>?_⟩
 ·have:=(show big = 4611686018427387904 from rfl)
  omega
 ·have:=cl_at h3 j
  omega
theorem net_okR {n:Int} {r:List (List D)} (h:netB n r = true):okR r:=by
 obtain ⟨-,h1,h2⟩:=net_parts h
 exact ⟨by omega,fun i hi=>road_okC (h2 i hi)⟩
theorem ent_ge {l:List (List D)} {c:Int}:∀ (k i:Nat) (s:Int),s ≤ entF l c i k s
 | 0,_,_=>Int.le_refl _
 | k + 1,i,s=>by
   simp only [entF]
   refine Int.le_trans ?_ (ent_ge k (i + 1) _)
   split <;> omega
theorem ent_le {l:List (List D)} {c H:Int} (h:∀ j,ix (l.getD j []) 1 ≤ H):∀ (k i:Nat) (s:Int),entF l c i k s ≤ max s H
 | 0,_,s=>by simp only [entF]; omega
 | k + 1,i,s=>by
   simp only [entF]
   refine Int.le_trans (ent_le h k (i + 1) _) ?_
   have:=h i
   split <;> omega
theorem ent_mono {l:List (List D)} {c:Int}:∀ (k i:Nat) (s s':Int),s ≤ s' → entF l c i k s ≤ entF l c i k s'
 | 0,_,_,_,h=>h
 | k + 1,i,s,s',h=>by
   simp only [entF]
   refine ent_mono k (i + 1) _ _ ?_
   split <;> split <;> omega
theorem entW_parts {n:Int} {c:List D} (h:roadB n c = true):(∀ t,t ≤ entW c t) ∧ (∀ t,entW c t ≤ max t 100000) ∧ ∀ t t',t ≤ t' → entW c t ≤ entW c t':=by
 obtain ⟨-,-,-,-,h3⟩:=road_parts h
 exact ⟨fun t=>ent_ge _ _ _,fun t=>ent_le (fun j=>(cl_at h3 j).2.2) _ _ _,fun t t' ht=>ent_mono _ _ _ _ ht⟩
theorem at_mono {n k k':Int} {a:List (List D)} (h:okAt n k a) (hk:k ≤ k'):okAt n k' a:=⟨h.1,fun v=>⟨(h.2 v).1,by have:=(h.2 v).2; omega⟩⟩
theorem hop_ok {n k:Int} {a x:List (List D)} {c:List D} (hc:roadB n c = true) (hk:0 ≤ k) (ha:okAt n k a) (hx:okAt n (k + 1) x):okAt n (k + 1) (hop1 c a x):=by
 obtain ⟨h1,h2,h3,-,-⟩:=road_parts hc
 obtain ⟨e1,e2,e3⟩:=entW_parts hc
 unfold hop1
 split
 ·exact hx
 ·rename_i h4
  split
  ·refine ⟨by rw [len_rs]; exact hx.1,fun v=>?_⟩
   have hxl:=hx.1
   rw [rg_rs (by omega)]
   split
   ·have h5:=ha.2 (ix c 0).toNat
    have h6:=e1 (rg a (ix c 0).toNat)
    have h7:=e2 (rg a (ix c 0).toNat)
    omega
   ·exact hx.2 v
  ·exact hx
theorem hops_ok {n k:Int} {r a:List (List D)} (hN:netB n r = true) (hk:0 ≤ k) (ha:okAt n k a):∀ (m i:Nat) (x:List (List D)),i + m ≤ r.length → okAt n (k + 1) x → okAt n (k + 1) (hopF r a i m x)
 | 0,_,_,_,h=>h
 | m + 1,i,x,hm,h=>hops_ok hN hk ha m (i + 1) _ (by omega) (hop_ok ((net_parts hN).2.2 i (by omega)) hk ha h)
theorem begin_ok {n v t:Int} (hn:0 ≤ n) (hv:0 ≤ v ∧ v < n) (ht:0 ≤ t ∧ t ≤ 1099511627776):okAt n 0 (beginF n v t):=by
 unfold beginF
 refine ⟨by rw [len_rs]; simp; omega,fun u=>?_⟩
 rw [rg_rs (by simp; omega)]
 split
 ·omega
 ·by_cases hu:u < n.toNat
  ·rw [rg_rep hu]; omega
  ·rw [rg_ge (by simp; omega)]; omega
def prQ (c:List D):Int × Int:=(ix c 0,ix c 1)
def inQ (s:Sr) (p:Int × Int):Prop:=∃ i,i < s.k ∧ prQ (s.q.getD i []) = p
theorem swap_get {l:List (List D)} {i j k:Nat} (hi:i < l.length) (hj:j < l.length):prQ ((swapR l i j).getD k []) = if k = j then prQ (l.getD i []) else if k = i then prQ (l.getD j []) else prQ (l.getD k []):=by
 unfold swapR
 rw [getD_set (by rw [List.length_set]; exact hj)]
 split
 ·rfl
 ·rw [getD_set hi]
  split
  ·rfl
  ·rfl
def sameQ (n:Nat) (l l':List (List D)):Prop:=l'.length = l.length ∧ ∀ p,(∃ i,i < n ∧ prQ (l'.getD i []) = p) ↔ ∃ i,i < n ∧ prQ (l.getD i []) = p
theorem sameQ.refl (n:Nat) (l:List (List D)):sameQ n l l:=⟨rfl,fun _=>Iff.rfl⟩
theorem sameQ.trans {n:Nat} {a b c:List (List D)} (h:sameQ n a b) (h':sameQ n b c):sameQ n a c:=⟨h'.1.trans h.1,fun p=>(h'.2 p).trans (h.2 p)⟩
theorem swap_same {l:List (List D)} {n i j:Nat} (hn:n ≤ l.length) (hi:i < n) (hj:j < n):sameQ n l (swapR l i j):=by
 refine ⟨len_swap _ _ _,fun p=>⟨fun ⟨k,hk,e⟩=>?_,fun ⟨k,hk,e⟩=>?_⟩⟩
 ·rw [swap_get (by omega) (by omega)] at e
  split at e
  ·exact ⟨i,hi,e⟩
  ·split at e
   ·exact ⟨j,hj,e⟩
   ·exact ⟨k,hk,e⟩
 ·by_cases h1:k = i
  ·subst h1
   exact ⟨j,hj,by rw [swap_get (by omega) (by omega),if_pos rfl]; exact e⟩
  ·by_cases h2:k = j
   ·subst h2
    refine ⟨i,hi,?_⟩
    rw [swap_get (by omega) (by omega),if_neg (fun h=>h1 h.symm),if_pos rfl]
    exact e
   ·exact ⟨k,hk,by rw [swap_get (by omega) (by omega),if_neg h2,if_neg h1]; exact e⟩
theorem up_same {n:Nat}:∀ (f:Nat) (l:List (List D)) (j:Nat),n ≤ l.length → j < n → sameQ n l (upF f l j)
 | 0,l,_,_,_=>sameQ.refl n l
 | f + 1,l,j,hn,hj=>by
   simp only [upF]
   split
   ·exact sameQ.refl n l
   ·exact (swap_same hn (by omega) hj).trans (up_same f _ _ (by rw [len_swap]; exact hn) (by omega))
theorem down_same {n m:Nat} (hm:m ≤ n):∀ (f:Nat) (l:List (List D)) (i:Nat),n ≤ l.length → i < n → sameQ n l (downF f l m i).1
 | 0,l,_,_,_=>sameQ.refl n l
 | f + 1,l,i,hn,hi=>by
   simp only [downF]
   split
   ·exact sameQ.refl n l
   ·rename_i hc
    rw [not_or] at hc
    have hk:=kid_lt (l:=l) (m:=m) (i:=i) (by omega)
    exact (swap_same hn hi (by omega)).trans (down_same hm f _ _ (by rw [len_swap]; exact hn) (by omega))
theorem pop_same {l:List (List D)} {n:Nat} (hn:n ≤ l.length) (h0:0 < n):sameQ n l (popR l n):=
 (swap_same hn h0 (by omega)).trans (down_same (by omega) n _ 0 (by rw [len_swap]; exact hn) h0)
theorem pop_in {s:Sr} (hk:s.k ≠ 0) (hq:s.k ≤ s.q.length) (p:Int × Int):inQ s p ↔ p = (takeV s,takeT s) ∨ inQ ⟨s.o,s.k - 1,popR s.q s.k⟩ p:=by
 have h:=(pop_same hq (by omega)).2 p
 unfold inQ
 rw [← h]
 refine ⟨fun ⟨i,hi,e⟩=>?_,fun hh=>?_⟩
 ·by_cases h1:i = s.k - 1
  ·subst h1
   exact .inl e.symm
  ·exact .inr ⟨i,by simp only; omega,e⟩
 ·rcases hh with rfl | ⟨i,hi,e⟩
  ·exact ⟨s.k - 1,by omega,rfl⟩
  ·exact ⟨i,by simp only at hi; omega,e⟩
theorem push_in {o:List (List D)} {k:Nat} {q:List (List D)} (hq:k ≤ q.length) (v t:Int) (p:Int × Int):inQ ⟨o,k + 1,pushR q k v t⟩ p ↔ p = (v,t) ∨ inQ ⟨o,k,q⟩ p:=by
 have hlen:(q.take k ++ [[D.i v,D.i t]]).length = k + 1:=by rw [List.length_append,List.length_take]; simp; omega
 have h:=(up_same (n:=k + 1) (k + 1) (q.take k ++ [[D.i v,D.i t]]) k (by omega) (by omega)).2 p
 unfold inQ
 simp only
 unfold pushR
 rw [h]
 have hget:∀ i,i < k → (q.take k ++ [[D.i v,D.i t]]).getD i [] = q.getD i []:=fun i hi=>by
  simp only [List.getD_eq_getElem?_getD]
  rw [List.getElem?_append_left (by rw [List.length_take]; omega),List.getElem?_take,if_pos hi]
 have hlast:(q.take k ++ [[D.i v,D.i t]]).getD k [] = [D.i v,D.i t]:=by
  simp only [List.getD_eq_getElem?_getD]
  rw [List.getElem?_append_right (by rw [List.length_take]; omega),List.length_take,Nat.min_eq_left hq,Nat.sub_self]
  rfl
 refine ⟨fun ⟨i,hi,e⟩=>?_,fun hh=>?_⟩
 ·by_cases h1:i = k
  ·subst h1
   rw [hlast] at e
   exact .inl e.symm
  ·rw [hget i (by omega)] at e
   exact .inr ⟨i,by omega,e⟩
 ·rcases hh with rfl | ⟨i,hi,e⟩
  ·exact ⟨k,by omega,by rw [hlast]; rfl⟩
  ·exact ⟨i,by omega,by rw [hget i hi]; exact e⟩
structure Ed where
 m : Nat
 fr:Nat → Int
 to:Nat → Int
 fn:Nat → Int → Int
structure Ed.OK (E:Ed) (n:Nat) (H:Int):Prop where
 fr:∀ j,j < E.m → 0 ≤ E.fr j ∧ E.fr j < n
 to:∀ j,j < E.m → 0 ≤ E.to j ∧ E.to j < n
 up:∀ j,j < E.m → ∀ t,t < E.fn j t
 mono:∀ j,j < E.m → ∀ t t',t ≤ t' → E.fn j t ≤ E.fn j t'
 bnd:∀ j,j < E.m → ∀ t,E.fn j t ≤ max t H + 10000
inductive Walk (E:Ed) (v0 t0:Int):Int → Int → Prop
 | here:Walk E v0 t0 v0 t0
 | step {t:Int} {j:Nat}:Walk E v0 t0 (E.fr j) t → j < E.m → Walk E v0 t0 (E.to j) (E.fn j t)
abbrev INF:Int:=9223372036854775807
def Least (E:Ed) (n:Nat) (v0 t0:Int) (d:Nat → Int):Prop:=(∀ v,v < n → d v ≤ INF) ∧ (∀ v,v < n → d v < INF → Walk E v0 t0 v (d v)) ∧ ∀ v t,Walk E v0 t0 v t → d v.toNat ≤ t
def Yields (E:Ed) (N:Int → Int → List (List D)):Prop:=∀ v t,(∀ e ∈ N v t,∃ j,j < E.m ∧ E.fr j = v ∧ ix e 0 = E.to j ∧ ix e 1 = E.fn j t) ∧ ∀ j,j < E.m → E.fr j = v → ∃ e ∈ N v t,ix e 0 = E.to j ∧ ix e 1 = E.fn j t
def sumN (g:Nat → Nat):Nat → Nat
 | 0=>0
 | n + 1=>sumN g n + g n
theorem sumN_le {g g':Nat → Nat}:∀ {n:Nat},(∀ i,i < n → g i ≤ g' i) → sumN g n ≤ sumN g' n
 | 0,_=>Nat.le_refl _
 | n + 1,h=>by
   simp only [sumN]
   have:=sumN_le (n:=n) fun i hi=>h i (by omega)
   have:=h n (by omega)
   omega
theorem sumN_lt {g g':Nat → Nat}:∀ {n:Nat},(∀ i,i < n → g i ≤ g' i) → (∃ i,i < n ∧ g i < g' i) → sumN g n < sumN g' n
 | 0,_,⟨i,hi,_⟩=>by omega
 | n + 1,h,⟨i,hi,hlt⟩=>by
   simp only [sumN]
   have h1:=sumN_le (n:=n) fun i hi=>h i (by omega)
   have h2:=h n (by omega)
   by_cases he:i = n
   ·subst he; omega
   ·have:=sumN_lt (n:=n) (fun i hi=>h i (by omega)) ⟨i,by omega,hlt⟩
    omega
theorem sumN_const (c:Nat):∀ n,sumN (fun _=>c) n = c * n
 | 0=>rfl
 | n + 1=>by simp only [sumN,sumN_const c n]; rw [Nat.mul_succ]
section
variable {n:Nat}
theorem rel_spec:∀ (es:List (List D)) (s:Sr),s.o.length = n → s.k ≤ s.q.length → (∀ e ∈ es,0 ≤ ix e 0 ∧ ix e 0 < n) →
    (relF es s).o.length = n ∧ (relF es s).k ≤ (relF es s).q.length ∧ (∀ u,rg (relF es s).o u ≤ rg s.o u) ∧ (∀ e ∈ es,rg (relF es s).o (ix e 0).toNat ≤ ix e 1) ∧
     (∀ u,u < n → rg (relF es s).o u = rg s.o u ∨ ∃ e ∈ es,(ix e 0).toNat = u ∧ rg (relF es s).o u = ix e 1 ∧ inQ (relF es s) (ix e 0,ix e 1)) ∧
     (∀ p,inQ s p → inQ (relF es s) p) ∧ ∀ p,inQ (relF es s) p → inQ s p ∨ ∃ e ∈ es,p = (ix e 0,ix e 1)
 | [],s,h1,h2,_=>⟨h1,h2,fun _=>Int.le_refl _,fun e he=>by simp at he,fun u _=>.inl rfl,fun _ h=>h,fun _ h=>.inl h⟩
 | e :: es,s,h1,h2,h3=>by
   obtain ⟨e1,e2⟩:=h3 e List.mem_cons_self
   have h4:∀ x ∈ es,0 ≤ ix x 0 ∧ ix x 0 < n:=fun x hx=>h3 x (List.mem_cons_of_mem _ hx)
   simp only [relF]
   by_cases hc:ix e 1 < rg s.o (ix e 0).toNat
   ·rw [if_pos hc]
    obtain ⟨k1,k2,k3,k4,k5,k6,k7⟩:=rel_spec es ⟨rs s.o (ix e 0).toNat (ix e 1),s.k + 1,pushR s.q s.k (ix e 0) (ix e 1)⟩ (by simp only [len_rs]; exact h1) (by simp only; rw [len_push _ _ _ h2]; exact Nat.le_refl _) h4
    generalize relF es ⟨rs s.o (ix e 0).toNat (ix e 1),s.k + 1,pushR s.q s.k (ix e 0) (ix e 1)⟩ = s' at *
    have hrs:∀ u,rg (rs s.o (ix e 0).toNat (ix e 1)) u = if u = (ix e 0).toNat then ix e 1 else rg s.o u:=fun u=>rg_rs (by omega) _ _
    have hle:∀ u,rg (rs s.o (ix e 0).toNat (ix e 1)) u ≤ rg s.o u:=fun u=>by rw [hrs]; split <;> first | (subst_vars; omega) | exact Int.le_refl _
    refine ⟨k1,k2,fun u=>Int.le_trans (k3 u) (hle u),fun x hx=>?_,fun u hu=>?_,fun p hp=>k6 p ((push_in h2 _ _ p).2 (.inr hp)),fun p hp=>?_⟩
    ·rcases List.mem_cons.1 hx with rfl | hx
     ·refine Int.le_trans (k3 _) ?_
      simp only [hrs,if_true]
      exact Int.le_refl _
     ·exact k4 x hx
    ·rcases k5 u hu with h | ⟨x,hx,h5,h6,h7⟩
     ·rw [h]
      simp only [hrs]
      split
      ·rename_i he
       exact .inr ⟨e,List.mem_cons_self,he.symm,rfl,k6 _ ((push_in h2 _ _ _).2 (.inl rfl))⟩
      ·exact .inl rfl
     ·exact .inr ⟨x,List.mem_cons_of_mem _ hx,h5,h6,h7⟩
    ·rcases k7 p hp with h | ⟨x,hx,h⟩
     ·rcases (push_in h2 _ _ p).1 h with h | h
      ·exact .inr ⟨e,List.mem_cons_self,h⟩
      ·exact .inl h
     ·exact .inr ⟨x,List.mem_cons_of_mem _ hx,h⟩
   ·rw [if_neg hc]
    obtain ⟨k1,k2,k3,k4,k5,k6,k7⟩:=rel_spec es s h1 h2 h4
    refine ⟨k1,k2,k3,fun x hx=>?_,fun u hu=>?_,k6,fun p hp=>?_⟩
    ·rcases List.mem_cons.1 hx with rfl | hx
     ·have:=k3 (ix x 0).toNat; omega
     ·exact k4 x hx
    ·rcases k5 u hu with h | ⟨x,hx,h5⟩
     ·exact .inl h
     ·exact .inr ⟨x,List.mem_cons_of_mem _ hx,h5⟩
    ·rcases k7 p hp with h | ⟨x,hx,h⟩
     ·exact .inl h
     ·exact .inr ⟨x,List.mem_cons_of_mem _ hx,h⟩
def capN (B t0 x:Int):Nat:=(if x < INF then x - t0 else B + 1 - t0).toNat
def potN (n:Nat) (B t0:Int) (s:Sr):Nat:=s.k + 2 * sumN (fun u=>capN B t0 (rg s.o u)) n
theorem rel_pot {B t0:Int} (hB:B < INF):∀ (es:List (List D)) (s:Sr),s.o.length = n → (∀ e ∈ es,(0 ≤ ix e 0 ∧ ix e 0 < n) ∧ t0 ≤ ix e 1 ∧ ix e 1 ≤ B) → potN n B t0 (relF es s) ≤ potN n B t0 s
 | [],_,_,_=>Nat.le_refl _
 | e :: es,s,h1,h3=>by
   obtain ⟨⟨e1,e2⟩,e3,e4⟩:=h3 e List.mem_cons_self
   have h4:∀ x ∈ es,(0 ≤ ix x 0 ∧ ix x 0 < n) ∧ t0 ≤ ix x 1 ∧ ix x 1 ≤ B:=fun x hx=>h3 x (List.mem_cons_of_mem _ hx)
   simp only [relF]
   by_cases hc:ix e 1 < rg s.o (ix e 0).toNat
   ·rw [if_pos hc]
    refine Nat.le_trans (rel_pot hB es _ (by simp only [len_rs]; exact h1) h4) ?_
    have hrs:∀ u,rg (rs s.o (ix e 0).toNat (ix e 1)) u = if u = (ix e 0).toNat then ix e 1 else rg s.o u:=fun u=>rg_rs (by omega) _ _
    have hlt:sumN (fun u=>capN B t0 (rg (rs s.o (ix e 0).toNat (ix e 1)) u)) n < sumN (fun u=>capN B t0 (rg s.o u)) n:=by
     have hone:capN B t0 (ix e 1) < capN B t0 (rg s.o (ix e 0).toNat):=by
      unfold capN
      rw [if_pos (by omega)]
      split <;> omega
     refine sumN_lt (fun u _=>?_) ⟨(ix e 0).toNat,by omega,?_⟩
     ·simp only [hrs]
      split
      ·rename_i he; subst he; exact Nat.le_of_lt hone
      ·exact Nat.le_refl _
     ·simp only [hrs,if_true]; exact hone
    unfold potN
    simp only
    omega
   ·rw [if_neg hc]
    exact rel_pot hB es s h1 h4
end
noncomputable section
def popS (s:Sr):Sr:=⟨s.o,s.k - 1,popR s.q s.k⟩
def stepG (N:Int → Int → List (List D)) (s:Sr):Sr:=if takeT s > rg s.o (takeV s).toNat then popS s else relF (N (takeV s) (takeT s)) (popS s)
def cntN (n:Nat) (o:List (List D)):Nat:=sumN (fun u=>if rg o u < INF then 1 else 0) n
end
structure InvS (E:Ed) (n:Nat) (H v0 t0:Int) (s:Sr):Prop where
 len:s.o.length = n
 kq:s.k ≤ s.q.length
 src:rg s.o v0.toNat ≤ t0
 le:∀ u,u < n → rg s.o u ≤ INF
 q : ∀ p,inQ s p → (0 ≤ p.1 ∧ p.1 < n) ∧ rg s.o p.1.toNat ≤ p.2 ∧ p.2 ≤ max t0 H + 10000 * ((n:Int) + 1)
 walk:∀ u,u < n → rg s.o u < INF → Walk E v0 t0 u (rg s.o u)
 front:∀ u,u < n → rg s.o u < INF → inQ s ((u:Int),rg s.o u) ∨ ∀ j,j < E.m → E.fr j = (u:Int) → rg s.o (E.to j).toNat ≤ E.fn j (rg s.o u)
 bnd:∀ u,u < n → rg s.o u < INF → rg s.o u ≤ max t0 H + 10000 * (cntN n s.o:Int)
theorem walk_lo {E:Ed} {n:Nat} {H v0 t0:Int} (hE:E.OK n H) {v t:Int} (h:Walk E v0 t0 v t):t0 ≤ t:=by
 induction h with
 | here=>exact Int.le_refl _
 | step _ hj ih=>have:=hE.up _ hj; exact Int.le_of_lt (Int.lt_of_le_of_lt ih (this _))
theorem cnt_le (n:Nat) (o:List (List D)):cntN n o ≤ n:=by
 have:=sumN_le (n:=n) (g:=fun u=>if rg o u < INF then 1 else 0) (g':=fun _=>1) fun i _=>by split <;> omega
 rw [sumN_const] at this
 unfold cntN
 omega
theorem pot_pop {n:Nat} {B t0:Int} {s:Sr} (hk:s.k ≠ 0):potN n B t0 (popS s) < potN n B t0 s:=by
 unfold potN popS
 simp only
 omega
section
variable {E:Ed} {N:Int → Int → List (List D)} {n:Nat} {H v0 t0:Int}
theorem inv_step (hE:E.OK n H) (hN:Yields E N) (hB:max t0 H + 10000 * ((n:Int) + 1) < INF) {s:Sr} (I:InvS E n H v0 t0 s) (hk:s.k ≠ 0) :
    InvS E n H v0 t0 (stepG N s) ∧ potN n (max t0 H + 10000 * ((n:Int) + 1)) t0 (stepG N s) < potN n (max t0 H + 10000 * ((n:Int) + 1)) t0 s:=by
 have hpin:=fun p=>pop_in hk I.kq p
 obtain ⟨⟨v1,v2⟩,v3,v4⟩:=I.q _ ((hpin (takeV s,takeT s)).2 (.inl rfl))
 simp only at v1 v2 v3 v4
 have hpq:(popS s).k ≤ (popS s).q.length:=by unfold popS; simp only [len_pop]; have:=I.kq; omega
 unfold stepG
 by_cases hc:takeT s > rg s.o (takeV s).toNat
 ·rw [if_pos hc]
  refine ⟨⟨I.len,hpq,I.src,I.le,fun p hp=>I.q p ((hpin p).2 (.inr hp)),I.walk,fun u hu hf=>?_,I.bnd⟩,pot_pop hk⟩
  rcases I.front u hu hf with h | h
  ·rcases (hpin _).1 h with h | h
   ·exfalso
    simp only [Prod.mk.injEq] at h
    rw [← h.1,← h.2] at hc
    simp at hc
   ·exact .inl h
  ·exact .inr h
 ·rw [if_neg hc]
  have hT:takeT s = rg s.o (takeV s).toNat:=by omega
  have hVn:(takeV s).toNat < n:=by omega
  have hVc:((takeV s).toNat:Int) = takeV s:=by omega
  have hfV:rg s.o (takeV s).toNat < INF:=by omega
  have hbV:=I.bnd _ hVn hfV
  have hcl:=cnt_le n s.o
  have hwV:=I.walk _ hVn hfV
  rw [hVc,← hT] at hwV
  have hloV:=walk_lo hE hwV
  have hes:∀ e ∈ N (takeV s) (takeT s),(0 ≤ ix e 0 ∧ ix e 0 < n) ∧ t0 ≤ ix e 1 ∧ ix e 1 ≤ max t0 H + 10000 * ((cntN n s.o:Int) + 1):=fun e he=>by
   obtain ⟨j,hj,e1,e2,e3⟩:=(hN _ _).1 e he
   rw [e2,e3]
   have h1:=hE.to j hj
   have h2:=hE.up j hj (takeT s)
   have h3:=hE.bnd j hj (takeT s)
   refine ⟨h1,by omega,?_⟩
   rw [hT] at h3 ⊢
   omega
  obtain ⟨k1,k2,k3,k4,k5,k6,k7⟩:=rel_spec (n:=n) (N (takeV s) (takeT s)) (popS s) I.len hpq fun e he=>(hes e he).1
  have hpot:=rel_pot (n:=n) (B:=max t0 H + 10000 * ((n:Int) + 1)) (t0:=t0) hB (N (takeV s) (takeT s)) (popS s) I.len fun e he=>by
   obtain ⟨h1,h2,h3⟩:=hes e he
   exact ⟨h1,h2,by omega⟩
  refine ⟨?_,Nat.lt_of_le_of_lt hpot (pot_pop hk)⟩
  generalize relF (N (takeV s) (takeT s)) (popS s) = s' at *
  have k3:∀ u,rg s'.o u ≤ rg s.o u:=k3
  have k5:∀ u,u < n → rg s'.o u = rg s.o u ∨ ∃ e ∈ N (takeV s) (takeT s),(ix e 0).toNat = u ∧ rg s'.o u = ix e 1 ∧ inQ s' (ix e 0,ix e 1):=k5
  have hcnt:cntN n s.o ≤ cntN n s'.o:=sumN_le fun u _=>by
   have:=k3 u
   split
   ·rw [if_pos (by omega)]; exact Nat.le_refl _
   ·exact Nat.zero_le _
  refine ⟨k1,k2,Int.le_trans (k3 _) I.src,fun u hu=>Int.le_trans (k3 u) (I.le u hu),fun p hp=>?_,fun u hu hf=>?_,fun u hu hf=>?_,fun u hu hf=>?_⟩
  ·rcases k7 p hp with h | ⟨e,he,rfl⟩
   ·obtain ⟨h1,h2,h3⟩:=I.q p ((hpin p).2 (.inr h))
    exact ⟨h1,Int.le_trans (k3 _) h2,h3⟩
   ·obtain ⟨h1,h2,h3⟩:=hes e he
    exact ⟨h1,k4 e he,by simp only; omega⟩
  ·rcases k5 u hu with h | ⟨e,he,h1,h2,-⟩
   ·rw [h] at hf ⊢
    exact I.walk u hu hf
   ·obtain ⟨j,hj,e1,e2,e3⟩:=(hN _ _).1 e he
    have h3:=(hes e he).1
    have hw:Walk E v0 t0 (E.to j) (E.fn j (takeT s)):=.step (by rw [e1]; exact hwV) hj
    rw [h2,e3,show (u:Int) = E.to j by rw [← e2]; omega]
    exact hw
  ·rcases k5 u hu with h | ⟨e,he,h1,h2,h3⟩
   ·rw [h] at hf ⊢
    rcases I.front u hu hf with h5 | h5
    ·rcases (hpin _).1 h5 with h6 | h6
     ·right
      intro j hj hfr
      simp only [Prod.mk.injEq] at h6
      obtain ⟨e,he,e1,e2⟩:=(hN (takeV s) (takeT s)).2 j hj (by rw [hfr,h6.1])
      have:=k4 e he
      rw [e1,e2] at this
      rw [h6.2]
      exact this
     ·exact .inl (k6 _ h6)
    ·exact .inr fun j hj hfr=>Int.le_trans (k3 _) (h5 j hj hfr)
   ·left
    have h4:=(hes e he).1
    rw [h2,show (u:Int) = ix e 0 by omega]
    exact h3
  ·rcases k5 u hu with h | ⟨e,he,h1,h2,-⟩
   ·rw [h] at hf ⊢
    have:=I.bnd u hu hf
    omega
   ·obtain ⟨-,-,h3⟩:=hes e he
    by_cases hfu:rg s.o u < INF
    ·have h4:=I.bnd u hu hfu
     have h5:=k3 u
     omega
    ·have hlt:cntN n s.o < cntN n s'.o:=sumN_lt (fun w _=>by
      have:=k3 w
      split
      ·rw [if_pos (by omega)]; exact Nat.le_refl _
      ·exact Nat.zero_le _) ⟨u,hu,by rw [if_neg hfu,if_pos hf]; exact Nat.zero_lt_one⟩
     rw [h2]
     omega
theorem inv_least (hE:E.OK n H) (hv0:0 ≤ v0 ∧ v0 < n) {s:Sr} (I:InvS E n H v0 t0 s) (hk:s.k = 0):Least E n v0 t0 (rg s.o):=by
 refine ⟨I.le,I.walk,fun v t h=>?_⟩
 have hr:∀ {v t:Int},Walk E v0 t0 v t → 0 ≤ v ∧ v < n:=fun h=>by
  cases h with
  | here=>exact hv0
  | step _ hj=>exact hE.to _ hj
 induction h with
 | here=>exact I.src
 | @step t j hw hj ih=>
   obtain ⟨r1,r2⟩:=hr hw
   have hlt:(E.fr j).toNat < n:=by omega
   have hup:=hE.up j hj t
   have ht:=hE.to j hj
   by_cases hf:rg s.o (E.fr j).toNat < INF
   ·rcases I.front _ hlt hf with ⟨i,hi,-⟩ | h
    ·omega
    ·have:=h j hj (by omega)
     have:=hE.mono j hj _ _ ih
     omega
   ·have:=I.le (E.to j).toNat (by omega)
    have:=I.le _ hlt
    omega
def endsG (need:Sr → Prop) (step:Sr → Sr):Nat → Sr → Prop
 | 0,s=>s.k = 0
 | f + 1,s=>s.k ≠ 0 ∧ need s ∧ endsG need step f (step s)
def runG (step:Sr → Sr):Nat → Sr → List (List D)
 | 0,s=>s.o
 | f + 1,s=>runG step f (step s)
theorem inv_ends (hE:E.OK n H) (hN:Yields E N) (hB:max t0 H + 10000 * ((n:Int) + 1) < INF) (hv0:0 ≤ v0 ∧ v0 < n) {need:Sr → Prop} {Q:Nat} (hneed:∀ s,InvS E n H v0 t0 s → s.k ≠ 0 → potN n (max t0 H + 10000 * ((n:Int) + 1)) t0 s ≤ Q → need s) :
    ∀ (m:Nat) (s:Sr),InvS E n H v0 t0 s → potN n (max t0 H + 10000 * ((n:Int) + 1)) t0 s ≤ m → m ≤ Q → ∃ f,f ≤ m ∧ endsG need (stepG N) f s ∧ Least E n v0 t0 (rg (runG (stepG N) f s))
 | 0, s,I,hm,hQ=>by
   have hk:s.k = 0:=by unfold potN at hm; omega
   exact ⟨0,Nat.le_refl _,hk,inv_least hE hv0 I hk⟩
 | m + 1,s,I,hm,hQ=>by
   by_cases hk:s.k = 0
   ·exact ⟨0,Nat.zero_le _,hk,inv_least hE hv0 I hk⟩
   ·obtain ⟨I',hp⟩:=inv_step hE hN hB I hk
    obtain ⟨f,h1,h2,h3⟩:=inv_ends hE hN hB hv0 hneed m (stepG N s) I' (by omega) (by omega)
    exact ⟨f + 1,by omega,⟨hk,hneed s I hk (by omega),h2⟩,h3⟩
end
def edR (r:List (List D)):Ed:=⟨r.length,fun j=>ix (r.getD j []) 0,fun j=>ix (r.getD j []) 1,fun j t=>entW (r.getD j []) t + ix (r.getD j []) 2⟩
theorem edR_ok {n:Int} {r:List (List D)} (h:netB n r = true):(edR r).OK n.toNat 100000:=by
 obtain ⟨h1,h2,h3⟩:=net_parts h
 refine ⟨fun j hj=>?_,fun j hj=>?_,fun j hj t=>?_,fun j hj t t' ht=>?_,fun j hj t=>?_⟩
 ·have:=(road_parts (h3 j hj)).1
  show 0 ≤ ix (r.getD j []) 0 ∧ ix (r.getD j []) 0 < (n.toNat:Int)
  omega
 ·have:=(road_parts (h3 j hj)).2.1
  show 0 ≤ ix (r.getD j []) 1 ∧ ix (r.getD j []) 1 < (n.toNat:Int)
  omega
 ·have:=(road_parts (h3 j hj)).2.2.1
  have:=(entW_parts (h3 j hj)).1 t
  show t < entW (r.getD j []) t + ix (r.getD j []) 2
  omega
 ·have:=(entW_parts (h3 j hj)).2.2 t t' ht
  show entW (r.getD j []) t + ix (r.getD j []) 2 ≤ entW (r.getD j []) t' + ix (r.getD j []) 2
  omega
 ·have:=(road_parts (h3 j hj)).2.2.1
  have:=(entW_parts (h3 j hj)).2.1 t
  show entW (r.getD j []) t + ix (r.getD j []) 2 ≤ max t 100000 + 10000
  omega
theorem next_of {r:List (List D)} {v t:Int}:∀ (k i j:Nat),i ≤ j → j < i + k → ix (r.getD j []) 0 = v → ∃ e ∈ nextF r v t i k,ix e 0 = ix (r.getD j []) 1 ∧ ix e 1 = entW (r.getD j []) t + ix (r.getD j []) 2
 | 0,i,j,h1,h2,_=>by omega
 | k + 1,i,j,h1,h2,hv=>by
   simp only [nextF]
   by_cases e:j = i
   ·subst e
    rw [if_pos hv]
    exact ⟨_,List.mem_cons_self,rfl,rfl⟩
   ·obtain ⟨x,hx,h3⟩:=next_of k (i + 1) j (by omega) (by omega) hv
    refine ⟨x,?_,h3⟩
    split
    ·exact List.mem_cons_of_mem _ hx
    ·exact hx
def nxR (r:List (List D)):Int → Int → List (List D):=fun v t=>nextF r v t 0 r.length
theorem nxR_ok (r:List (List D)):Yields (edR r) (nxR r):=fun v t=>by
 refine ⟨fun e he=>?_,fun j hj hv=>next_of _ _ j (Nat.zero_le _) (by show j < 0 + r.length; have:j < r.length:=hj; omega) hv⟩
 obtain ⟨j,-,h1,h2,h3,h4⟩:=next_mem _ _ he
 exact ⟨j,by show j < r.length; omega,h3,h2,h4⟩
theorem ends_G {n:Nat} {r:List (List D)}:∀ (f:Nat) (s:Sr),endsG (needS n r) (stepG (nxR r)) f s → endsS n r f s
 | 0,_,h=>h
 | f + 1,_,h=>⟨h.1,h.2.1,ends_G f _ h.2.2⟩
theorem run_G {r:List (List D)}:∀ (f:Nat) (s:Sr),runG (stepG (nxR r)) f s = runSr r f s
 | 0,_=>rfl
 | f + 1,_=>run_G f _
theorem inv_start {E:Ed} {n:Int} {v t:Int} (hv:0 ≤ v ∧ v < n) (ht:t < INF):InvS E n.toNat 100000 v t (startS n v t):=by
 have hrg:∀ u,rg (startS n v t).o u = if u = v.toNat then t else rg (List.replicate n.toNat [.i 9223372036854775807]) u:=fun u=>rg_rs (by simp; omega) _ _
 have hrn:∀ u,u < n.toNat → rg (startS n v t).o u = if u = v.toNat then t else INF:=fun u hu=>by rw [hrg,rg_rep hu]
 have hin:∀ p,inQ (startS n v t) p → p = (v,t):=fun p ⟨i,h1,h2⟩=>by
  have h1:i < 1:=h1
  obtain rfl:i = 0:=by omega
  exact h2.symm
 refine ⟨by simp [startS,len_rs],Nat.le_refl 1,by rw [hrg,if_pos rfl]; exact Int.le_refl _,fun u hu=>?_,fun p hp=>?_,fun u hu hf=>?_,fun u hu hf=>?_,fun u hu hf=>?_⟩
 ·rw [hrn u hu]; split <;> omega
 ·rw [hin p hp]
  refine ⟨by simp only; omega,?_,by simp only; omega⟩
  simp only
  rw [hrg,if_pos rfl]
  exact Int.le_refl _
 ·rw [hrn u hu] at hf ⊢
  split at hf
  ·rename_i e
   rw [if_pos e,show (u:Int) = v by omega]
   exact .here
  ·omega
 ·rw [hrn u hu] at hf ⊢
  split at hf
  ·rename_i e
   rw [if_pos e]
   refine .inl ⟨0,Nat.zero_lt_one,?_⟩
   show (v,t) = _
   rw [show (u:Int) = v by omega]
  ·omega
 ·rw [hrn u hu] at hf ⊢
  split at hf
  ·rename_i e
   rw [if_pos e]
   omega
  ·omega
theorem pot_start {n:Int} {v t B:Int} (hv:0 ≤ v ∧ v < n) (ht:t < INF) (hB:t ≤ B):potN n.toNat B t (startS n v t) ≤ 1 + 2 * ((B + 1 - t).toNat * n.toNat):=by
 unfold potN
 have:=sumN_le (n:=n.toNat) (g:=fun u=>capN B t (rg (startS n v t).o u)) (g':=fun _=>(B + 1 - t).toNat) fun u hu=>by
  have hrg:rg (startS n v t).o u = if u = v.toNat then t else rg (List.replicate n.toNat [.i 9223372036854775807]) u:=rg_rs (by simp; omega) _ _
  rw [hrg,rg_rep hu]
  unfold capN
  by_cases e:u = v.toNat
  ·rw [if_pos e,if_pos ht]; omega
  ·rw [if_neg e,if_neg (show ¬ (9223372036854775807:Int) < 9223372036854775807 by omega)]
   exact Nat.le_refl _
 rw [sumN_const] at this
 have h1:(startS n v t).k = 1:=rfl
 omega
theorem search_ends {n:Int} {r:List (List D)} {v t:Int} (hN:netB n r = true) (hv:0 ≤ v ∧ v < n) (ht:0 ≤ t ∧ t ≤ 1099511627776) (hs:t ≤ 100000:=by omega) :
    haltS n.toNat r (startS n v t) ∧ Least (edR r) n.toNat v t (rg (resS n.toNat r (startS n v t))):=by
 obtain ⟨h1,h2,h3⟩:=net_parts hN
 have hE:=edR_ok hN
 have hI:INF = 9223372036854775807:=rfl
 have hn:(n.toNat:Int) = n:=by omega
 have hB:max t 100000 + 10000 * ((n.toNat:Int) + 1) < INF:=by omega
 have hp:=pot_start (n:=n) (B:=max t 100000 + 10000 * ((n.toNat:Int) + 1)) hv (by omega:t < INF) (by omega)
 have hm:(max t 100000 + 10000 * ((n.toNat:Int) + 1) + 1 - t).toNat * n.toNat ≤ 2200000 * 200:=Nat.mul_le_mul (by omega) (by omega)
 obtain ⟨f,f1,f2,f3⟩:=inv_ends (n:=n.toNat) hE (nxR_ok r) hB (by omega) (need:=needS n.toNat r) (Q:=1000000000) (fun s I hk hQ=>by
  have hkq:s.k ≤ 1000000000:=by unfold potN at hQ; omega
  obtain ⟨⟨v1,v2⟩,v3,v4⟩:=I.q _ ((pop_in hk I.kq (takeV s,takeT s)).2 (.inl rfl))
  simp only at v1 v2 v3 v4
  have hfV:rg s.o (takeV s).toNat < INF:=by omega
  have hlo:=walk_lo hE (I.walk (takeV s).toNat (by omega) hfV)
  refine ⟨I.kq,by omega,by rw [I.len]; exact Nat.le_refl _,⟨v1,v2⟩,⟨by omega,by omega⟩,net_okR hN,by omega,fun i hi=>?_⟩
  have:=(road_parts (h3 i hi)).2.1
  omega) 1000000000 (startS n v t) (inv_start hv (by omega)) (by omega) (Nat.le_refl _)
 have he:=ends_G f _ f2
 refine ⟨⟨f,by omega,he⟩,?_⟩
 rw [resS_eq he,← run_G]
 exact f3
def cv (z:Int):Int:=if z < 0 then INF else z
theorem hop1_spec {n K:Int} {a x:List (List D)} {c:List D} (hc:roadB n c = true) (hK:0 ≤ K ∧ K ≤ 1000) (ha:okAt n K a) (hx:okAt n (K + 1) x) :
    (∀ u,cv (rg (hop1 c a x) u) ≤ cv (rg x u)) ∧ (¬ rg a (ix c 0).toNat < 0 → cv (rg (hop1 c a x) (ix c 1).toNat) ≤ entW c (rg a (ix c 0).toNat) + ix c 2) ∧
     ∀ u,rg (hop1 c a x) u = rg x u ∨ (¬ rg a (ix c 0).toNat < 0 ∧ (ix c 1).toNat = u ∧ rg (hop1 c a x) u = entW c (rg a (ix c 0).toNat) + ix c 2):=by
 obtain ⟨h1,h2,h3,-,-⟩:=road_parts hc
 obtain ⟨e1,e2,-⟩:=entW_parts hc
 have h5:=ha.2 (ix c 0).toNat
 have h6:=e1 (rg a (ix c 0).toNat)
 have h7:=e2 (rg a (ix c 0).toNat)
 have hxl:=hx.1
 have hI:INF = 9223372036854775807:=rfl
 unfold hop1
 by_cases c1:rg a (ix c 0).toNat < 0
 ·rw [if_pos c1]
  exact ⟨fun u=>Int.le_refl _,fun h=>absurd c1 h,fun u=>.inl rfl⟩
 ·rw [if_neg c1]
  by_cases c2:rg x (ix c 1).toNat < 0 ∨ entW c (rg a (ix c 0).toNat) + ix c 2 < rg x (ix c 1).toNat
  ·rw [if_pos c2]
   have hrs:=fun u=>rg_rs (R:=x) (j:=(ix c 1).toNat) (by omega) (entW c (rg a (ix c 0).toNat) + ix c 2) u
   refine ⟨fun u=>?_,fun _=>?_,fun u=>?_⟩
   ·rw [hrs]
    by_cases e:u = (ix c 1).toNat
    ·rw [if_pos e,e]
     unfold cv
     split <;> split <;> omega
    ·rw [if_neg e]; exact Int.le_refl _
   ·rw [hrs,if_pos rfl]
    unfold cv
    rw [if_neg (by omega)]
    exact Int.le_refl _
   ·rw [hrs]
    by_cases e:u = (ix c 1).toNat
    ·rw [if_pos e]
     exact .inr ⟨c1,e.symm,rfl⟩
    ·rw [if_neg e]; exact .inl rfl
  ·rw [if_neg c2]
   refine ⟨fun u=>Int.le_refl _,fun _=>?_,fun u=>.inl rfl⟩
   unfold cv
   split <;> omega
theorem hops_spec {n K:Int} {r a:List (List D)} (hN:netB n r = true) (hK:0 ≤ K ∧ K ≤ 1000) (ha:okAt n K a):∀ (m i:Nat) (x:List (List D)),i + m ≤ r.length → okAt n (K + 1) x →
    (∀ u,cv (rg (hopF r a i m x) u) ≤ cv (rg x u)) ∧ (∀ j,i ≤ j → j < i + m → ¬ rg a ((edR r).fr j).toNat < 0 → cv (rg (hopF r a i m x) ((edR r).to j).toNat) ≤ (edR r).fn j (rg a ((edR r).fr j).toNat)) ∧
     ∀ u,rg (hopF r a i m x) u = rg x u ∨ ∃ j,j < r.length ∧ ¬ rg a ((edR r).fr j).toNat < 0 ∧ ((edR r).to j).toNat = u ∧ rg (hopF r a i m x) u = (edR r).fn j (rg a ((edR r).fr j).toNat)
 | 0,i,x,_,_=>⟨fun u=>Int.le_refl _,fun j h1 h2=>by omega,fun u=>.inl rfl⟩
 | m + 1,i,x,hm,hx=>by
   have hR:=(net_parts hN).2.2 i (by omega)
   obtain ⟨a1,a2,a3⟩:=hop1_spec hR hK ha hx
   obtain ⟨b1,b2,b3⟩:=hops_spec hN hK ha m (i + 1) (hop1 (r.getD i []) a x) (by omega) (hop_ok hR hK.1 ha hx)
   simp only [hopF]
   refine ⟨fun u=>Int.le_trans (b1 u) (a1 u),fun j h1 h2 h3=>?_,fun u=>?_⟩
   ·by_cases e:j = i
    ·subst e
     exact Int.le_trans (b1 _) (a2 h3)
    ·exact b2 j (by omega) (by omega) h3
   ·rcases b3 u with h | h
    ·rw [h]
     rcases a3 u with h' | ⟨h4,h5,h6⟩
     ·exact .inl h'
     ·exact .inr ⟨i,by omega,h4,h5,h6⟩
    ·exact .inr h
theorem walk_inv {E:Ed} {v0 t0 v t:Int} (h:Walk E v0 t0 v t):(v = v0 ∧ t = t0) ∨ ∃ j t',j < E.m ∧ v = E.to j ∧ t = E.fn j t' ∧ Walk E v0 t0 (E.fr j) t':=by
 cases h with
 | here=>exact .inl ⟨rfl,rfl⟩
 | step h hj=>exact .inr ⟨_,_,hj,rfl,rfl,h⟩
structure Sound (r:List (List D)) (n:Int) (v0 t0:Int) (a:List (List D)):Prop where
 src:cv (rg a v0.toNat) ≤ t0
 walk:∀ u,u < n.toNat → ¬ rg a u < 0 → Walk (edR r) v0 t0 u (rg a u)
open Classical in
noncomputable def lateN (d:Nat → Int) (n:Nat) (a:List (List D)):Nat:=sumN (fun u=>if cv (rg a u) = d u then 0 else 1) n
section
variable {n K v0 t0:Int} {r a:List (List D)} {d:Nat → Int}
theorem sound_ge (hL:Least (edR r) n.toNat v0 t0 d) (hS:Sound r n v0 t0 a) {u:Nat} (hu:u < n.toNat):d u ≤ cv (rg a u):=by
 unfold cv
 split
 ·exact hL.1 u hu
 ·rename_i h
  have:=hL.2.2 _ _ (hS.walk u hu h)
  rwa [Int.toNat_natCast] at this
theorem sound_hop (hN:netB n r = true) (hK:0 ≤ K ∧ K ≤ 1000) (ha:okAt n K a) (hS:Sound r n v0 t0 a):Sound r n v0 t0 (hopF r a 0 r.length a):=by
 obtain ⟨b1,b2,b3⟩:=hops_spec hN hK ha r.length 0 a (by omega) (at_mono ha (by omega))
 refine ⟨Int.le_trans (b1 _) hS.src,fun u hu h=>?_⟩
 have hE:=edR_ok hN
 rcases b3 u with e | ⟨j,hj,e1,e2,e3⟩
 ·rw [e] at h ⊢
  exact hS.walk u hu h
 ·rw [e3]
  have h1:=hE.to j hj
  have h2:=hE.fr j hj
  have hw:=hS.walk _ (by omega) e1
  rw [show ((((edR r).fr j).toNat:Nat):Int) = (edR r).fr j by omega] at hw
  rw [show (u:Int) = (edR r).to j by omega]
  exact .step hw hj
theorem late_hop (hN:netB n r = true) (_hv:0 ≤ v0 ∧ v0 < n) (hK:0 ≤ K ∧ K ≤ 1000) (ha:okAt n K a) (hL:Least (edR r) n.toNat v0 t0 d) (hS:Sound r n v0 t0 a) (h0:lateN d n.toNat a ≠ 0) :
    lateN d n.toNat (hopF r a 0 r.length a) < lateN d n.toNat a:=by
 have hE:=edR_ok hN
 obtain ⟨b1,b2,b3⟩:=hops_spec hN hK ha r.length 0 a (by omega) (at_mono ha (by omega))
 have hS':=sound_hop hN hK ha hS
 have stay:∀ u,u < n.toNat → cv (rg a u) = d u → cv (rg (hopF r a 0 r.length a) u) = d u:=fun u hu h=>by
  have:=sound_ge hL hS' hu
  have:=b1 u
  omega
 have hex:∃ u,u < n.toNat ∧ cv (rg a u) ≠ d u:=by
  refine Classical.byContradiction fun hn=>h0 ?_
  unfold lateN
  have:sumN (fun u=>if cv (rg a u) = d u then 0 else 1) n.toNat ≤ sumN (fun _=>0) n.toNat:=sumN_le fun u hu=>by
   rw [if_pos (Classical.byContradiction fun h=>hn ⟨u,hu,h⟩)]
   exact Nat.le_refl _
  rw [sumN_const] at this
  omega
 have hlow:∀ u,u < n.toNat → d u < INF → t0 ≤ d u:=fun u hu h=>walk_lo hE (hL.2.1 u hu h)
 have hlt:∀ u,u < n.toNat → cv (rg a u) ≠ d u → d u < INF:=fun u hu h=>by
  have h1:=sound_ge hL hS hu
  have h2:cv (rg a u) ≤ INF:=by
   unfold cv
   split
   ·exact Int.le_refl _
   ·have hI:INF = 9223372036854775807:=rfl
    have:=(ha.2 u).2; omega
  omega
 obtain ⟨m,⟨u,hu,h1,h2⟩,hmin⟩:=least_of (P:=fun m=>∃ u,u < n.toNat ∧ cv (rg a u) ≠ d u ∧ (d u - t0).toNat = m) (by obtain ⟨u,hu,h⟩:=hex; exact ⟨_,u,hu,h,rfl⟩)
 have hdu:=hlt u hu h1
 have hfin:cv (rg (hopF r a 0 r.length a) u) = d u:=by
  rcases walk_inv (hL.2.1 u hu hdu) with ⟨e1,e2⟩ | ⟨j,t',hj,e1,e2,hw⟩
  ·exfalso
   have:=hS.src
   rw [← e1,Int.toNat_natCast] at this
   have:=sound_ge hL hS hu
   omega
  ·have g1:=hE.up j hj t'
   have g2:=hL.2.2 _ _ hw
   have g3:=hE.fr j hj
   have g4:=hE.to j hj
   have g5:cv (rg a ((edR r).fr j).toNat) = d ((edR r).fr j).toNat:=Classical.byContradiction fun hc=>by
    have k1:=hlt _ (by omega) hc
    have k2:=hlow _ (by omega) k1
    exact hmin _ (by have:=hlow u hu hdu; omega) ⟨_,by omega,hc,rfl⟩
   have g6:¬ rg a ((edR r).fr j).toNat < 0:=fun hc=>by
    unfold cv at g5
    rw [if_pos hc] at g5
    omega
   have g7:=b2 j (Nat.zero_le _) (by show j < 0 + r.length; have:j < r.length:=hj; omega) g6
   have g8:rg a ((edR r).fr j).toNat ≤ t':=by
    unfold cv at g5
    rw [if_neg g6] at g5
    omega
   have g9:=hE.mono j hj _ _ g8
   rw [← e1,Int.toNat_natCast] at g7
   have:=sound_ge hL hS' hu
   omega
 refine sumN_lt (fun w hw=>?_) ⟨u,hu,?_⟩
 ·split
  ·exact Nat.zero_le _
  ·rename_i h
   rw [if_neg fun h'=>h (stay w hw h')]
   exact Nat.le_refl _
 ·rw [if_pos hfin,if_neg h1]
  exact Nat.zero_lt_one
theorem reach_least (hN:netB n r = true) (hv:0 ≤ v0 ∧ v0 < n) (hL:Least (edR r) n.toNat v0 t0 d):∀ (k:Nat) (a:List (List D)) (K:Int),0 ≤ K → K + k ≤ 1000 → okAt n K a → Sound r n v0 t0 a → lateN d n.toNat a ≤ k →
    okAt n 1000 (reachF r k a) ∧ ∀ u,u < n.toNat → cv (rg (reachF r k a) u) = d u
 | 0, a,K,h0,h1,ha,hS,hl=>by
   refine ⟨at_mono ha (by omega),fun u hu=>Classical.byContradiction fun hc=>?_⟩
   have hc:¬ cv (rg a u) = d u:=hc
   have:sumN (fun _=>0) n.toNat < lateN d n.toNat a:=sumN_lt (fun w hw=>Nat.zero_le _) ⟨u,hu,by rw [if_neg hc]; exact Nat.zero_lt_one⟩
   rw [sumN_const] at this
   omega
 | k + 1,a,K,h0,h1,ha,hS,hl=>by
   refine reach_least hN hv hL k (hopF r a 0 r.length a) (K + 1) (by omega) (by omega) (hops_ok hN h0 ha r.length 0 a (by omega) (at_mono ha (by omega))) (sound_hop hN ⟨h0,by omega⟩ ha hS) ?_
   by_cases hz:lateN d n.toNat a = 0
   ·have hS':=sound_hop hN ⟨h0,by omega⟩ ha hS
    obtain ⟨b1,-,-⟩:=hops_spec hN ⟨h0,by omega⟩ ha r.length 0 a (by omega) (at_mono ha (by omega))
    refine Nat.le_trans (sumN_le (g':=fun u=>if cv (rg a u) = d u then 0 else 1) fun w hw=>?_) (by unfold lateN at hz; omega)
    split
    ·exact Nat.zero_le _
    ·rename_i h
     rw [if_neg fun h'=>h (by have:=sound_ge hL hS' hw; have:=b1 w; omega)]
     exact Nat.le_refl _
   ·have:=late_hop hN hv ⟨h0,by omega⟩ ha hL hS hz
    omega
end
theorem none_rg : ∀ (k i : Nat) (l:List (List D)),i + k ≤ l.length → ∀ u,rg (noneF i k l) u = if i ≤ u ∧ u < i + k ∧ rg l u = 9223372036854775807 then -1 else rg l u
 | 0,i,l,_,u=>by simp only [noneF]; rw [if_neg (by omega)]
 | k + 1, i, l, h, u => by
   simp only [noneF]
   rw [none_rg k (i + 1) _ (by split; · rw [len_rs]; omega
                               ·omega) u]
   by_cases c:rg l i = 9223372036854775807
   ·simp only [if_pos c]
    rw [rg_rs (by omega)]
    by_cases e:u = i
    ·subst e
     rw [if_pos rfl,if_neg (by omega),if_pos ⟨Nat.le_refl _,by omega,c⟩]
    ·rw [if_neg e]
     by_cases c2:i + 1 ≤ u ∧ u < i + 1 + k ∧ rg l u = 9223372036854775807
     ·rw [if_pos c2,if_pos (by omega)]
     ·rw [if_neg c2,if_neg (by omega)]
   ·simp only [if_neg c]
    by_cases e:u = i
    ·subst e
     rw [if_neg (by omega),if_neg (by omega)]
    ·by_cases c2:i + 1 ≤ u ∧ u < i + 1 + k ∧ rg l u = 9223372036854775807
     ·rw [if_pos c2,if_pos (by omega)]
     ·rw [if_neg c2,if_neg (by omega)]
theorem begin_sound {r:List (List D)} {n v t:Int} (hv:0 ≤ v ∧ v < n) (ht:0 ≤ t):Sound r n v t (beginF n v t):=by
 have hrg:∀ u,rg (beginF n v t) u = if u = v.toNat then t else rg (List.replicate n.toNat [.i (-1)]) u:=fun u=>rg_rs (by simp; omega) _ _
 refine ⟨?_,fun u hu h=>?_⟩
 ·rw [hrg,if_pos rfl]
  unfold cv
  rw [if_neg (by omega)]
  exact Int.le_refl _
 ·rw [hrg] at h ⊢
  split at h
  ·rename_i e
   rw [if_pos e,show (u:Int) = v by omega]
   exact .here
  ·rw [rg_rep hu] at h
   omega
theorem arr_same {n:Int} {r:List (List D)} {v t:Int} (hN:netB n r = true) (hv:0 ≤ v ∧ v < n) (ht:0 ≤ t ∧ t ≤ 100000) :
    (arrF n r v t).length = n.toNat ∧ (reachF r n.toNat (beginF n v t)).length = n.toNat ∧ ∀ u,u < n.toNat → rg (arrF n r v t) u = rg (reachF r n.toNat (beginF n v t)) u:=by
 obtain ⟨h1,-,-⟩:=net_parts hN
 obtain ⟨-,hL⟩:=search_ends hN hv (by omega:0 ≤ t ∧ t ≤ 1099511627776) ht.2
 have hlen:(resS n.toNat r (startS n v t)).length = n.toNat:=by rw [res_len,len_start]
 obtain ⟨k1,k2⟩:=reach_least hN hv hL n.toNat (beginF n v t) 0 (Int.le_refl _) (by omega) (begin_ok (by omega) hv (by omega)) (begin_sound hv ht.1) (by
  unfold lateN
  refine Nat.le_trans (sumN_le (g':=fun _=>1) fun u hu=>by split <;> omega) ?_
  rw [sumN_const]
  omega)
 refine ⟨by unfold arrF; rw [none_len,hlen],by have:=k1.1; omega,fun u hu=>?_⟩
 unfold arrF
 rw [none_rg _ _ _ (by omega)]
 have k4:=k2 u hu
 obtain ⟨k3,k5⟩:=k1.2 u
 rw [← k4]
 generalize rg (reachF r n.toNat (beginF n v t)) u = z at *
 have hlo:rg (resS n.toNat r (startS n v t)) u < INF → t ≤ rg (resS n.toNat r (startS n v t)) u:=fun h=>walk_lo (edR_ok hN) (hL.2.1 u hu h)
 rw [← k4] at hlo
 unfold cv at hlo ⊢
 by_cases hz:z < 0
 ·rw [if_pos hz,if_pos ⟨Nat.zero_le _,by omega,rfl⟩]
  omega
 ·rw [if_neg hz]
  by_cases hi:z = 9223372036854775807
  ·omega
  ·rw [if_neg (by omega)]
set_option maxRecDepth 100000
theorem arr_ok {n:Int} {r:List (List D)} {v t:Int} (hN:netB n r = true) (hv:0 ≤ v ∧ v < n) (ht:0 ≤ t ∧ t ≤ 100000) :
    okAt n 1000 (arrF n r v t) ∧ ∃ d,Least (edR r) n.toNat v t d ∧ ∀ u,u < n.toNat → cv (rg (arrF n r v t) u) = d u:=by
 obtain ⟨h1,-,-⟩:=net_parts hN
 obtain ⟨-,hL⟩:=search_ends hN hv (by omega:0 ≤ t ∧ t ≤ 1099511627776) ht.2
 obtain ⟨k1,k2⟩:=reach_least hN hv hL n.toNat (beginF n v t) 0 (Int.le_refl _) (by omega) (begin_ok (by omega) hv (by omega)) (begin_sound hv ht.1) (by
  unfold lateN
  refine Nat.le_trans (sumN_le (g':=fun _=>1) fun u hu=>by split <;> omega) ?_
  rw [sumN_const]
  omega)
 obtain ⟨s1,s2,s3⟩:=arr_same hN hv ht
 refine ⟨⟨by omega,fun u=>?_⟩,_,hL,fun u hu=>by rw [s3 u hu]; exact k2 u hu⟩
 by_cases hu:u < n.toNat
 ·rw [s3 u hu]; exact k1.2 u
 ·rw [rg_ge (by omega)]; omega
noncomputable section
def bestF (n:Int) (r:List (List D)) (v t to:Int):Int:=rg (arrF n r v t) to.toNat
def docA (n:Int) (r:List (List D)) (v t to:Int):Int:=rg (reachF r n.toNat (beginF n v t)) to.toNat
end
set_option linter.unusedVariables false
structure ExStep (E:Ed) (n:Nat) (x x':Nat → Int):Prop where
 le:∀ j,j < E.m → x (E.fr j).toNat < INF → x' (E.to j).toNat ≤ E.fn j (x (E.fr j).toNat)
 at':∀ u,u < n → x' u = INF ∨ ∃ j,j < E.m ∧ x (E.fr j).toNat < INF ∧ (E.to j).toNat = u ∧ x' u = E.fn j (x (E.fr j).toNat)
structure MoStep (E:Ed) (n:Nat) (x x':Nat → Int):Prop where
 le0:∀ u,x' u ≤ x u
 le:∀ j,j < E.m → x (E.fr j).toNat < INF → x' (E.to j).toNat ≤ E.fn j (x (E.fr j).toNat)
 at':∀ u,u < n → x' u = x u ∨ ∃ j,j < E.m ∧ x (E.fr j).toNat < INF ∧ (E.to j).toNat = u ∧ x' u = E.fn j (x (E.fr j).toNat)
section
variable {E:Ed} {n:Nat} {H:Int}
end
section
variable {n:Int} {r:List (List D)} {v t:Int}
end
set_option linter.unusedVariables false
noncomputable section
def leavF (l:List (List D)) (c:Int):Nat → Int → Int
 | 0,s=>s
 | k + 1,s=>leavF l c k (if s + c > ix (l.getD k []) 0 ∧ s < ix (l.getD k []) 1 then ix (l.getD k []) 0 - c else s)
def leaW (c:List D) (t:Int):Int:=leavF (lx c 3) (ix c 2) (lx c 3).length t
def backF (r:List (List D)) (v t:Int):Nat → Nat → List (List D)
 | _,0=>[]
 | i,k + 1=>if ix (r.getD i []) 1 = v then [.i (ix (r.getD i []) 0),.i (-(leaW (r.getD i []) (-t - ix (r.getD i []) 2)))] :: backF r v t (i + 1) k else backF r v t (i + 1) k
def nxB (r:List (List D)):Int → Int → List (List D):=fun v t=>backF r v t 0 r.length
def edB (r:List (List D)):Ed:=⟨r.length,fun j=>ix (r.getD j []) 1,fun j=>ix (r.getD j []) 0,fun j t=>-(leaW (r.getD j []) (-t - ix (r.getD j []) 2))⟩
end
theorem leav_le {l:List (List D)} {c:Int}:∀ (k:Nat) (s:Int),leavF l c k s ≤ s
 | 0,_=>Int.le_refl _
 | k + 1,s=>by
   simp only [leavF]
   refine Int.le_trans (leav_le k _) ?_
   split <;> omega
theorem leav_ge {l:List (List D)} {c:Int} (h:∀ j,0 ≤ ix (l.getD j []) 0):∀ (k:Nat) (s:Int),min s (-c) ≤ leavF l c k s
 | 0,s=>by simp only [leavF]; omega
 | k + 1,s=>by
   simp only [leavF]
   have:=h k
   refine Int.le_trans ?_ (leav_ge h k _)
   split <;> omega
theorem leav_mono {l:List (List D)} {c:Int}:∀ (k:Nat) (s s':Int),s ≤ s' → leavF l c k s ≤ leavF l c k s'
 | 0,_,_,h=>h
 | k + 1,s,s',h=>by
   simp only [leavF]
   refine leav_mono k _ _ ?_
   split <;> split <;> omega
theorem leaW_parts {n:Int} {c:List D} (h:roadB n c = true):(∀ t,leaW c t ≤ t) ∧ (∀ t,min t (-10000) ≤ leaW c t) ∧ ∀ t t',t ≤ t' → leaW c t ≤ leaW c t':=by
 obtain ⟨-,-,h2,-,h3⟩:=road_parts h
 refine ⟨fun t=>leav_le _ _,fun t=>?_,fun t t' ht=>leav_mono _ _ _ ht⟩
 have:=leav_ge (l:=lx c 3) (c:=ix c 2) (fun j=>(cl_at h3 j).1.1) (lx c 3).length t
 unfold leaW
 omega
theorem edB_ok {n:Int} {r:List (List D)} (h:netB n r = true):(edB r).OK n.toNat 100000:=by
 obtain ⟨h1,h2,h3⟩:=net_parts h
 refine ⟨fun j hj=>?_,fun j hj=>?_,fun j hj t=>?_,fun j hj t t' ht=>?_,fun j hj t=>?_⟩
 ·have:=(road_parts (h3 j hj)).2.1
  show 0 ≤ ix (r.getD j []) 1 ∧ ix (r.getD j []) 1 < (n.toNat:Int)
  omega
 ·have:=(road_parts (h3 j hj)).1
  show 0 ≤ ix (r.getD j []) 0 ∧ ix (r.getD j []) 0 < (n.toNat:Int)
  omega
 ·have:=(road_parts (h3 j hj)).2.2.1
  have:=(leaW_parts (h3 j hj)).1 (-t - ix (r.getD j []) 2)
  show t < -(leaW (r.getD j []) (-t - ix (r.getD j []) 2))
  omega
 ·have:=(leaW_parts (h3 j hj)).2.2 (-t' - ix (r.getD j []) 2) (-t - ix (r.getD j []) 2) (by omega)
  show -(leaW (r.getD j []) (-t - ix (r.getD j []) 2)) ≤ -(leaW (r.getD j []) (-t' - ix (r.getD j []) 2))
  omega
 ·have:=(road_parts (h3 j hj)).2.2.1
  have:=(leaW_parts (h3 j hj)).2.1 (-t - ix (r.getD j []) 2)
  show -(leaW (r.getD j []) (-t - ix (r.getD j []) 2)) ≤ max t 100000 + 10000
  omega
theorem back_mem {r:List (List D)} {v t:Int}:∀ (k i:Nat),∀ e ∈ backF r v t i k,∃ j,i ≤ j ∧ j < i + k ∧ ix (r.getD j []) 1 = v ∧ ix e 0 = ix (r.getD j []) 0 ∧ ix e 1 = -(leaW (r.getD j []) (-t - ix (r.getD j []) 2))
 | 0,_,e,h=>by simp [backF] at h
 | k + 1,i,e,h=>by
   simp only [backF] at h
   split at h
   ·rename_i hv
    rcases List.mem_cons.1 h with rfl | h
    ·exact ⟨i,Nat.le_refl _,by omega,hv,rfl,rfl⟩
    ·obtain ⟨j,h1,h2,h3⟩:=back_mem k (i + 1) e h
     exact ⟨j,by omega,by omega,h3⟩
   ·obtain ⟨j,h1,h2,h3⟩:=back_mem k (i + 1) e h
    exact ⟨j,by omega,by omega,h3⟩
theorem back_of {r:List (List D)} {v t:Int}:∀ (k i j:Nat),i ≤ j → j < i + k → ix (r.getD j []) 1 = v → ∃ e ∈ backF r v t i k,ix e 0 = ix (r.getD j []) 0 ∧ ix e 1 = -(leaW (r.getD j []) (-t - ix (r.getD j []) 2))
 | 0,i,j,h1,h2,_=>by omega
 | k + 1,i,j,h1,h2,hv=>by
   simp only [backF]
   by_cases e:j = i
   ·subst e
    rw [if_pos hv]
    exact ⟨_,List.mem_cons_self,rfl,rfl⟩
   ·obtain ⟨x,hx,h3⟩:=back_of k (i + 1) j (by omega) (by omega) hv
    refine ⟨x,?_,h3⟩
    split
    ·exact List.mem_cons_of_mem _ hx
    ·exact hx
theorem nxB_ok (r:List (List D)):Yields (edB r) (nxB r):=fun v t=>by
 refine ⟨fun e he=>?_,fun j hj hv=>back_of _ _ j (Nat.zero_le _) (by show j < 0 + r.length; have:j < r.length:=hj; omega) hv⟩
 obtain ⟨j,-,h1,h2,h3,h4⟩:=back_mem _ _ e he
 exact ⟨j,by show j < r.length; omega,h2,h3,h4⟩
noncomputable section
def vehB (n:Int) (c:List D):Bool:=decide ((0 ≤ ix c 0 ∧ ix c 0 < n) ∧ (0 ≤ ix c 1 ∧ ix c 1 ≤ 65535) ∧ (0 ≤ ix c 2 ∧ ix c 2 ≤ ix c 3) ∧ ix c 3 ≤ 100000)
def zonB (n:Int) (c:List D):Bool:=decide ((0 ≤ ix c 0 ∧ ix c 0 < n) ∧ (0 ≤ ix c 1 ∧ ix c 1 ≤ 65535) ∧ 0 ≤ ix c 2 ∧ ix c 2 ≤ 10000)
def mk4 (a b c d:D):List D:=[.i a.I,.i b.I,.i c.I,.i d.I]
def mk3 (a b c:D):List D:=[.i a.I,.i b.I,.i c.I]
def vehL (n:Int) (v:List (List D)) (i:Nat):Bool:=vehB n (v.getD i [])
def zonL (n:Int) (z:List (List D)) (i:Nat):Bool:=zonB n (z.getD i [])
def vehs (n:Int) (v:List (List D)):Bool:=allFrom (vehL n v) 0 v.length
def zons (n:Int) (z:List (List D)):Bool:=allFrom (zonL n z) 0 z.length
def coverB (n:Int) (r v:List (List D)) (most:Int) (z:List (List D)) (h:Int):Bool:=netB n r && decide ((v.length:Int) ≤ most ∧ z.length ≤ 100 ∧ 0 ≤ h ∧ h ≤ 100000) && vehs n v && zons n z
def G78 (ds:List D):T (List D):=match ds with
 | [x]=>.leaf [.b (within x.I 0 65535)]
 | _=>.fail
def G77 (ds:List D):T (List D):=match ds with
 | [a,b,c,d,n,_]=>.need (yes (1 ≤ n.I ∧ n.I ≤ 200)) (.leaf [.b (!vehB n.I (mk4 a b c d))])
 | _=>.fail
def G80 (ds:List D):T (List D):=match ds with
 | [a,b,c,n,_]=>.need (yes (1 ≤ n.I ∧ n.I ≤ 200)) (.leaf [.b (!zonB n.I (mk3 a b c))])
 | _=>.fail
def G94 (ds:List D):T (List D):=match ds with
 | [l,n,_]=>.need (yes ((1 ≤ n.I ∧ n.I ≤ 200) ∧ l.L.length < big)) (.leaf [.i (firstFrom (fun j=>!vehL n.I l.L j) 0 l.L.length)])
 | _=>.fail
def G94_2 (ds:List D):T (Ex × List D):=match ds with
 | [l, n,_,m,i]=>.need (yes ((1 ≤ n.I ∧ n.I ≤ 200) ∧ l.L.length < big ∧ m.I = l.L.length ∧ 0 ≤ i.I ∧ i.I ≤ l.L.length))
     (.ite (decide (firstFrom (fun j=>!vehL n.I l.L j) i.I.toNat (l.L.length - i.I.toNat) ≥ 0)) (.leaf (.ret,[.i (firstFrom (fun j=>!vehL n.I l.L j) i.I.toNat (l.L.length - i.I.toNat))])) (.leaf (.exit 0,[])))
 | _=>.fail
def G95 (ds:List D):T (List D):=match ds with
 | [l,n,_]=>.need (yes ((1 ≤ n.I ∧ n.I ≤ 200) ∧ l.L.length < big)) (.leaf [.i (firstFrom (fun j=>!zonL n.I l.L j) 0 l.L.length)])
 | _=>.fail
def G95_2 (ds:List D):T (Ex × List D):=match ds with
 | [l, n,_,m,i]=>.need (yes ((1 ≤ n.I ∧ n.I ≤ 200) ∧ l.L.length < big ∧ m.I = l.L.length ∧ 0 ≤ i.I ∧ i.I ≤ l.L.length))
     (.ite (decide (firstFrom (fun j=>!zonL n.I l.L j) i.I.toNat (l.L.length - i.I.toNat) ≥ 0)) (.leaf (.ret,[.i (firstFrom (fun j=>!zonL n.I l.L j) i.I.toNat (l.L.length - i.I.toNat))])) (.leaf (.exit 0,[])))
 | _=>.fail
def G76 (ds:List D):T (List D):=match ds with
 | [l,n,_]=>.need (yes ((1 ≤ n.I ∧ n.I ≤ 200) ∧ l.L.length < big)) (.leaf [.b (!vehs n.I l.L)])
 | _=>.fail
def G79 (ds:List D):T (List D):=match ds with
 | [l,n,_]=>.need (yes ((1 ≤ n.I ∧ n.I ≤ 200) ∧ l.L.length < big)) (.leaf [.b (!zons n.I l.L)])
 | _=>.fail
def G52 (ds:List D):T (List D):=match ds with
 | [n,r,v,most,z,h]=>.need (yes (most.I ≤ 1000)) (.leaf [.b (coverB n.I r.L v.L most.I z.L h.I)])
 | _=>.fail
def G28 (ds:List D):T (List D):=match ds with
 | [n,v]=>.need (yes ((1 ≤ n.I ∧ n.I ≤ 200) ∧ v.L.length < big)) (.leaf [.b (vehs n.I v.L)])
 | _=>.fail
def G28_2 (ds:List D):T (Ex × List D):=match ds with
 | [n,v,i]=>.need (yes ((1 ≤ n.I ∧ n.I ≤ 200) ∧ v.L.length < big ∧ 0 ≤ i.I ∧ i.I ≤ v.L.length)) (.ite (allFrom (vehL n.I v.L) i.I.toNat (v.L.length - i.I.toNat)) (.leaf (.exit 0,[])) (.leaf (.ret,[.b false])))
 | _=>.fail
def G29 (ds:List D):T (List D):=match ds with
 | [n,z]=>.need (yes ((1 ≤ n.I ∧ n.I ≤ 200) ∧ z.L.length < big)) (.leaf [.b (zons n.I z.L && decide (z.L.length ≤ 100))])
 | _=>.fail
def G29_2 (ds:List D):T (Ex × List D):=match ds with
 | [n,z,i]=>.need (yes ((1 ≤ n.I ∧ n.I ≤ 200) ∧ z.L.length < big ∧ 0 ≤ i.I ∧ i.I ≤ z.L.length)) (.ite (allFrom (zonL n.I z.L) i.I.toNat (z.L.length - i.I.toNat)) (.leaf (.exit 0,[.l z.L])) (.leaf (.ret,[.b false])))
 | _=>.fail
end
noncomputable section
def backY (l:List (List D)):Nat → List (List D)
 | 0=>[]
 | k + 1=>[.i k,.i (ix (l.getD k []) 0),.i (ix (l.getD k []) 1)] :: backY l k
def leavG (c:Int):List (List D) → Int → Int
 | [],s=>s
 | e :: es,s=>leavG c es (if s + c > ix e 1 ∧ s < ix e 2 then ix e 1 - c else s)
def okY (L:List (List D)):Prop:=∀ e ∈ L,(-1099511627776 ≤ ix e 1 ∧ ix e 1 ≤ 1099511627776) ∧ -1099511627776 ≤ ix e 2 ∧ ix e 2 ≤ 1099511627776
def okU (s:Int):Prop:=-576460752303423488 ≤ s ∧ s ≤ 576460752303423488
def needB (n:Nat) (r:List (List D)) (s:Sr):Prop:=s.k ≤ s.q.length ∧ s.k < 274877906944 ∧ n ≤ s.o.length ∧ (0 ≤ takeV s ∧ takeV s < n) ∧ okU (takeT s) ∧ okR r ∧ r.length < 274877906944 ∧ ∀ i,i < r.length → 0 ≤ ix (r.getD i []) 0 ∧ ix (r.getD i []) 0 < n
def endsB (n:Nat) (r:List (List D)) (f:Nat) (s:Sr):Prop:=endsG (needB n r) (stepG (nxB r)) f s
def lenB (n:Nat) (r:List (List D)) (s:Sr):Nat:=Classical.epsilon fun f=>endsB n r f s
def resB (n:Nat) (r:List (List D)) (s:Sr):List (List D):=runG (stepG (nxB r)) (lenB n r s) s
def haltB (n:Nat) (r:List (List D)) (s:Sr):Prop:=∃ f,f < 9223372036854775808 ∧ endsB n r f s
def negF:Nat → Nat → List (List D) → List (List D)
 | _,0,l=>l
 | i,k + 1,l=>negF (i + 1) k (rs l i (-(rg l i)))
def okN (l:List (List D)):Prop:=∀ u,-9223372036854775807 ≤ rg l u ∧ rg l u ≤ 9223372036854775807
def G106 (ds:List D):T (List (List D)):=match ds with
 | [l]=>.need (yes (l.L.length < big)) (.leaf (backY l.L l.L.length))
 | _=>.fail
def G106_1 (q:Nat) (ds:List D):T (Ex × List D):=match ds with
 | [g, i,l]=>.need (yes (l.L.length < big ∧ -1 ≤ i.I ∧ i.I < l.L.length ∧ g.L.length ≤ q))
     (.ite (decide (q < g.L.length + (i.I + 1).toNat)) (.leaf (.ret,[.l (g.L ++ (backY l.L (i.I + 1).toNat).take (q + 1 - g.L.length)),.l l.L])) (.leaf (.exit 0,[.l (g.L ++ backY l.L (i.I + 1).toNat),.l l.L])))
 | _=>.fail
def G105 (ds:List D):T (List D):=match ds with
 | [l]=>.leaf [.l l.L]
 | _=>.fail
def G104 (ds:List D):T (List D):=match ds with
 | [_,_,c,l,s]=>.need (yes (okT c.I ∧ okS s.I ∧ okC l.L)) (.leaf [.i (leavF l.L c.I l.L.length s.I)])
 | _=>.fail
def G104_3 (L:List (List D)) (ds:List D):T (Ex × List D):=match ds with
 | [z,a,b,c,l,s]=>.need (yes (okT c.I ∧ okS s.I ∧ okY L)) (.leaf (.normal,[.i z.I,.i a.I,.i b.I,.i c.I,.l l.L,.i (leavG c.I L s.I)]))
 | _=>.fail
def G103 (ds:List D):T (List (List D)):=match ds with
 | [_,r,v,t]=>.need (yes (okR r.L ∧ okU t.I)) (.leaf (backF r.L v.I t.I 0 r.L.length))
 | _=>.fail
def G103_1 (q:Nat) (ds:List D):T (Ex × List D):=match ds with
 | [g, r,m,i,v,t]=>.need (yes (okR r.L ∧ okU t.I ∧ m.I = r.L.length ∧ 0 ≤ i.I ∧ i.I ≤ r.L.length ∧ g.L.length ≤ q))
     (.ite (decide (q < g.L.length + (backF r.L v.I t.I i.I.toNat (r.L.length - i.I.toNat)).length))
      (.leaf (.ret,[.l (g.L ++ (backF r.L v.I t.I i.I.toNat (r.L.length - i.I.toNat)).take (q + 1 - g.L.length)),.i v.I,.i t.I]))
      (.leaf (.exit 0,[.l (g.L ++ backF r.L v.I t.I i.I.toNat (r.L.length - i.I.toNat)),.i v.I,.i t.I])))
 | _=>.fail
def G102 (ds:List D):T (List D):=match ds with
 | [v,t,n,r]=>.leaf [.i n.I,.l r.L,.i v.I,.i t.I]
 | _=>.fail
def G1073_3:List D → T (Ex × List D):=G73_3
def G1073_9 (ds:List D):T (Ex × List D):=match ds with
 | [_,r,n,o,k,q]=>.need (yes (haltB n.I.toNat r.L (mkSr o k q))) (.leaf (.exit 2,[.i (n.I.toNat:Int),.l (resB n.I.toNat r.L (mkSr o k q))]))
 | _=>.fail
def G1073_14:List (List D) → List D → T (Ex × List D):=G73_14
def G1073 (ds:List D):T (List D):=match ds with
 | [n,v,t,_,r]=>.need (yes (0 ≤ n.I ∧ n.I < 1099511627776 ∧ 0 ≤ v.I ∧ v.I < n.I ∧ haltB n.I.toNat r.L (startS n.I v.I t.I))) (.leaf [.i n.I,.l (resB n.I.toNat r.L (startS n.I v.I t.I))])
 | _=>.fail
def latF (n:Int) (r:List (List D)) (v t:Int):List (List D):=negF 0 n.toNat (resB n.toNat r (startS n v (-t)))
def G97_3 (ds:List D):T (Ex × List D):=match ds with
 | [n,m,i,l]=>.need (yes (m.I = (n.I.toNat:Int) ∧ n.I.toNat ≤ l.L.length ∧ 0 ≤ i.I ∧ i.I ≤ m.I ∧ m.I < 1099511627776 ∧ okN l.L)) (.leaf (.exit 0,[.i (n.I.toNat:Int),.l (negF i.I.toNat (n.I.toNat - i.I.toNat) l.L)]))
 | _=>.fail
def G97 (ds:List D):T (List D):=match ds with
 | [n,r,v,t]=>.need (yes (netB n.I r.L = true ∧ (0 ≤ v.I ∧ v.I < n.I) ∧ 0 ≤ t.I ∧ t.I ≤ 1000000)) (.leaf [.i n.I,.l (latF n.I r.L v.I t.I)])
 | _=>.fail
end
noncomputable section
def andI (a b:Int):Int:=IntKind.i64.wrap (BitVec.ofInt IntKind.i64.bits a &&& BitVec.ofInt IntKind.i64.bits b).toNat
def ableB (x z:List D):Bool:=andI (ix x 1) (ix z 1) == ix z 1
def covB (n:Int) (r:List (List D)) (x z:List D) (t:Int):Bool:=
 decide (ix x 2 ≤ t ∧ t < ix x 3) && ableB x z && decide (0 ≤ docA n r (ix x 0) t (ix z 0) ∧ docA n r (ix x 0) t (ix z 0) ≤ t + ix z 2)
def setTo (g:List (List D)) (x:Int):List (List D):=g.set (g.length - 1) [(g.getD (g.length - 1) []).getD 0 default,(g.getD (g.length - 1) []).getD 1 default,.i x]
def okG (n:Int) (r v z:List (List D)) (h:Int):Prop:=netB n r = true ∧ vehs n v = true ∧ zons n z = true ∧ v.length ≤ 1000 ∧ z.length ≤ 100 ∧ 0 ≤ h ∧ h ≤ 100000
def mn (a b:Int):Int:=if b < a then b else a
def mx (a b:Int):Int:=if b > a then b else a
structure Pv where
 c : Bool
 to:Int
 nx:Int
def latU (n:Int) (r:List (List D)) (z:List D) (t u:Int):Int:=rg (latF n r (ix z 0) (t + ix z 2)) u.toNat
def stV (n:Int) (r:List (List D)) (z:List D) (t:Int) (x:List D) (s:Pv):Pv:=
 if ableB x z = false ∨ ix x 3 ≤ t then s
 else if t < ix x 2 then ⟨s.c,s.to,mn s.nx (ix x 2)⟩
 else if t ≤ latU n r z t (ix x 0) then ⟨true,mx s.to (mn (latU n r z t (ix x 0) + 1) (ix x 3)),s.nx⟩
 else if 0 ≤ bestF n r (ix x 0) t (ix z 0) then ⟨s.c,s.to,mn s.nx (mx (t + 1) (bestF n r (ix x 0) t (ix z 0) - ix z 2))⟩ else s
def runV (n:Int) (r v:List (List D)) (z:List D) (t:Int):Nat → Nat → Pv → Pv
 | _,0,s=>s
 | i,k + 1,s=>runV n r v z t (i + 1) k (stV n r z t (v.getD i []) s)
def pvAt (n:Int) (r v:List (List D)) (z:List D) (h t:Int):Pv:=runV n r v z t 0 v.length ⟨false,t,h⟩
def toP (n:Int) (r v:List (List D)) (z:List D) (h t:Int):Int:=mn (if (pvAt n r v z h t).c then (pvAt n r v z h t).to else mx (t + 1) (pvAt n r v z h t).nx) h
def pieceL (n:Int) (r v:List (List D)) (z:List D) (h:Int):Nat → Int → List (List D)
 | 0,_=>[]
 | f + 1,t=>if t < h then [.i t,.i (toP n r v z h t),.b (pvAt n r v z h t).c] :: pieceL n r v z h f (toP n r v z h t) else []
def okP (n:Int) (r v:List (List D)) (z:List D) (h:Int):Prop:=netB n r = true ∧ vehs n v = true ∧ zonB n z = true ∧ v.length ≤ 1000 ∧ 0 ≤ h ∧ h ≤ 100000
def G96 (ds:List D):T (List (List D)):=match ds with
 | [h,n,r,a,b,c,v]=>.need (yes (okP n.I r.L v.L (mk3 a b c) h.I)) (.leaf (pieceL n.I r.L v.L (mk3 a b c) h.I h.I.toNat 0))
 | _=>.fail
def G96_1 (q:Nat) (ds:List D):T (Ex × List D):=match ds with
 | [g, t,h,n,r,a,b,c,v]=>.need (yes (okP n.I r.L v.L (mk3 a b c) h.I ∧ 0 ≤ t.I ∧ t.I ≤ h.I ∧ g.L.length ≤ q))
     (.ite (decide (q < g.L.length + (pieceL n.I r.L v.L (mk3 a b c) h.I (h.I - t.I).toNat t.I).length))
      (.leaf (.ret,[.l (g.L ++ (pieceL n.I r.L v.L (mk3 a b c) h.I (h.I - t.I).toNat t.I).take (q + 1 - g.L.length)),.i h.I,.i n.I,.l r.L,.i a.I,.i b.I,.i c.I,.l v.L]))
      (.leaf (.exit 0,[.l (g.L ++ pieceL n.I r.L v.L (mk3 a b c) h.I (h.I - t.I).toNat t.I),.i h.I,.i n.I,.l r.L,.i a.I,.i b.I,.i c.I,.l v.L])))
 | _=>.fail
def pvOf (c to nx:D):Pv:=⟨c.B,to.I,nx.I⟩
def okPv (t h:Int) (s:Pv):Prop:=(s.c = true → t + 1 ≤ s.to) ∧ (t ≤ s.to ∧ s.to ≤ 100000) ∧ 0 ≤ s.nx ∧ s.nx ≤ h
def G96_6 (_:Nat) (ds:List D):T (Ex × List D):=match ds with
 | [g, t,m,nx,v',q,i,h,n,r,a,b,c,v,l,pf,pt,pc]=>.need (yes (okP n.I r.L v.L (mk3 a b c) h.I ∧ (0 ≤ t.I ∧ t.I < h.I) ∧ l.L = latF n.I r.L a.I (t.I + c.I) ∧ m.I = n.I ∧ v'.L = v.L ∧ q.I = v.L.length ∧ (0 ≤ i.I ∧ i.I ≤ v.L.length) ∧ okPv t.I h.I (pvOf pc pt nx)))
     (.leaf (.exit 2,[.l g.L,.i t.I,.i (runV n.I r.L v.L (mk3 a b c) t.I i.I.toNat (v.L.length - i.I.toNat) (pvOf pc pt nx)).nx,.i h.I,.i n.I,.l r.L,.i a.I,.i b.I,.i c.I,.l v.L,.i pf.I,.i (runV n.I r.L v.L (mk3 a b c) t.I i.I.toNat (v.L.length - i.I.toNat) (pvOf pc pt nx)).to,.b (runV n.I r.L v.L (mk3 a b c) t.I i.I.toNat (v.L.length - i.I.toNat) (pvOf pc pt nx)).c]))
 | _=>.fail
def G81 (ds:List D):T (List D):=match ds with
 | [n,r,v,a,b,c,h]=>.leaf [.i h.I,.i n.I,.l r.L,.i a.I,.i b.I,.i c.I,.l v.L]
 | _=>.fail
def gapP (i:Int) (e:List D) (s:List (List D) × Bool):List (List D) × Bool:=if bx e 2 then (s.1,false) else if s.2 then (setTo s.1 (ix e 1),true) else (s.1 ++ [[.i i,.i (ix e 0),.i (ix e 1)]],true)
def gapsF (i:Int):List (List D) → List (List D) × Bool → List (List D) × Bool
 | [],s=>s
 | e :: es,s=>gapsF i es (gapP i e s)
def G53_10 (L:List (List D)) (ds:List D):T (Ex × List D):=match ds with
 | [j, v,h,z,q,i,n,r,i',o]=>.need (yes (j.I = 0 ∧ o.B = false ∧ L.length ≤ 1000000))
     (.ite (gapsF i'.I L ([],false)).1.isEmpty (.leaf (.normal,[.i 0,.l v.L,.i h.I,.l z.L,.i q.I,.i i.I,.i n.I,.l r.L,.i i'.I,.b false]))
      (.leaf (.normal,[.i 1,.l v.L,.i h.I,.l z.L,.i q.I,.i i.I,.i n.I,.l r.L,.i (gapsF i'.I L ([],false)).1.length,.i i'.I,.b (gapsF i'.I L ([],false)).2,.l (gapsF i'.I L ([],false)).1])))
 | [j, v,h,z,q,i,n,r,m,i',o,g]=>.need (yes (j.I = 1 ∧ m.I = g.L.length ∧ 0 < g.L.length ∧ L.length ≤ 1000000 ∧ m.I + L.length ≤ 1000000000))
     (.leaf (.normal,[.i 1,.l v.L,.i h.I,.l z.L,.i q.I,.i i.I,.i n.I,.l r.L,.i (gapsF i'.I L (g.L,o.B)).1.length,.i i'.I,.b (gapsF i'.I L (g.L,o.B)).2,.l (gapsF i'.I L (g.L,o.B)).1]))
 | _=>.fail
def gapsZ (n:Int) (r v z:List (List D)) (h:Int):Nat → Nat → List (List D) → List (List D)
 | _,0,g=>g
 | i,k + 1,g=>gapsZ n r v z h (i + 1) k (gapsF i (pieceL n r v (mk3 (.i (ix (z.getD i []) 0)) (.i (ix (z.getD i []) 1)) (.i (ix (z.getD i []) 2))) h h.toNat 0) (g,false)).1
def G53_3 (ds:List D):T (Ex × List D):=match ds with
 | [j, v,h,z,q,i,n,r]=>.need (yes (j.I = 0 ∧ okG n.I r.L v.L z.L h.I ∧ q.I = z.L.length ∧ 0 ≤ i.I ∧ i.I ≤ z.L.length))
     (.ite (gapsZ n.I r.L v.L z.L h.I i.I.toNat (z.L.length - i.I.toNat) []).isEmpty (.leaf (.exit 0,[.i 0])) (.leaf (.exit 0,[.i 1,.i (gapsZ n.I r.L v.L z.L h.I i.I.toNat (z.L.length - i.I.toNat) []).length,.l (gapsZ n.I r.L v.L z.L h.I i.I.toNat (z.L.length - i.I.toNat) [])])))
 | [j, v,h,z,q,i,n,r,m,g]=>.need (yes (j.I = 1 ∧ okG n.I r.L v.L z.L h.I ∧ q.I = z.L.length ∧ (0 ≤ i.I ∧ i.I ≤ z.L.length) ∧ m.I = g.L.length ∧ 0 < g.L.length ∧ m.I ≤ 100000 * i.I))
     (.leaf (.exit 0,[.i 1,.i (gapsZ n.I r.L v.L z.L h.I i.I.toNat (z.L.length - i.I.toNat) g.L).length,.l (gapsZ n.I r.L v.L z.L h.I i.I.toNat (z.L.length - i.I.toNat) g.L)]))
 | _=>.fail
def gapsA (n:Int) (r v z:List (List D)) (h:Int):List (List D):=gapsZ n r v z h 0 z.length []
def G53 (ds:List D):T (List D):=match ds with
 | [n,r,v,z,h]=>.need (yes (okG n.I r.L v.L z.L h.I)) (.ite (gapsA n.I r.L v.L z.L h.I).isEmpty (.leaf [.i 0]) (.leaf [.i 1,.i (gapsA n.I r.L v.L z.L h.I).length,.l (gapsA n.I r.L v.L z.L h.I)]))
 | _=>.fail
def G27 (ds:List D):T (List D):=match ds with
 | [n,r,v,z,h]=>.ite (coverB n.I r.L v.L 60 z.L h.I) (.ite (gapsA n.I r.L v.L z.L h.I).isEmpty (.leaf [.i 0,.i 0]) (.leaf [.i 1,.i (gapsA n.I r.L v.L z.L h.I).length,.i 0,.l (gapsA n.I r.L v.L z.L h.I)])) (.leaf [.i 0,.i 2])
 | _=>.fail
end
noncomputable section
def chC (i:Int) (c:List D):List D:=[.l ([.i i] :: lx c 0)]
def chW (ch:Nat → List (List D)):Nat → Nat → List (List D)
 | _,0=>[]
 | i,k + 1=>(ch (i + 1)).map (chC (i:Nat)) ++ chW ch (i + 1) k
def chF (n:Nat):Nat → Nat → List (List D)
 | 0,_=>[[.l []]]
 | m + 1,i=>chW (chF n m) i (n - i)
end
noncomputable section
def vehR (c:List D):List D:=[.i (ix c 0),.i (ix c 1),.i (ix c 2),.i (ix c 3)]
def teamL (v:List (List D)) (l:List (List D)):List (List D):=l.map fun x=>vehR (v.getD (ix x 0).toNat [])
def restC (ch:List (List D)) (i j:Int):List (List D):=(lx (ch.getD i.toNat []) 0).drop j.toNat
end
def s56:Sig:=⟨[.k (.ro [.int .i64])],[(.sl 0 1,[.row [.int .i64]]),(.emp 1,[])]⟩
def s1055:SigW:=⟨[.sl 0 1,.k (.int .i64),.k (.int .i64),.ptr 1 1 0 0,.ptr 2 1 0 0,.ptr 3 2 0 0,.ptr 4 1 0 0,.ptr 5 1 0 0,.ptr 6 1 0 0],[.row [.int .i64],.box [.k (.ro [.int .i64,.int .i64,.int .i64,.int .i64])],.box [.k (.ro [.int .i64])],.box [.k (.int .i64),.k (.ro [.int .i64,.int .i64,.int .i64,.ro [.int .i64,.int .i64]])],.box [.k (.ro [.int .i64,.int .i64,.int .i64])],.box [.k (.int .i64)],.box [.fn 55 [] [.ptr 1 1 0 0,.ptr 2 1 0 0,.ptr 3 2 0 0,.ptr 4 1 0 0,.ptr 5 1 0 0,.ptr 6 1 0 0]]],[(.k .bool,[.none,.box [.k (.ro [.int .i64,.int .i64,.int .i64,.int .i64])],.box [.k (.ro [.int .i64])],.box [.k (.int .i64),.k (.ro [.int .i64,.int .i64,.int .i64,.ro [.int .i64,.int .i64]])],.box [.k (.ro [.int .i64,.int .i64,.int .i64])],.box [.k (.int .i64)],.box [.fn 55 [] [.ptr 1 1 0 0,.ptr 2 1 0 0,.ptr 3 2 0 0,.ptr 4 1 0 0,.ptr 5 1 0 0,.ptr 6 1 0 0]]])]⟩
def l1055_4:LSig:=mkLS [0,3,4,5,6,7,13,22,23,24] [(73,[(0,.k (.ro [.int .i64])),(3,.ptr 1 1 0 0),(4,.ptr 2 1 0 0),(5,.ptr 3 2 0 0),(6,.ptr 4 1 0 0),(7,.ptr 5 1 0 0),(13,.nils),(22,.k (.ro [.int .i64])),(23,.k (.int .i64)),(24,.k (.int .i64))],[.none,.box [.k (.ro [.int .i64,.int .i64,.int .i64,.int .i64])],.box [.k (.ro [.int .i64])],.box [.k (.int .i64),.k (.ro [.int .i64,.int .i64,.int .i64,.ro [.int .i64,.int .i64]])],.box [.k (.ro [.int .i64,.int .i64,.int .i64])],.box [.k (.int .i64)],.box [.fn 55 [] [.ptr 1 1 0 0,.ptr 2 1 0 0,.ptr 3 2 0 0,.ptr 4 1 0 0,.ptr 5 1 0 0,.ptr 6 1 0 0]]]),(73,[(0,.k (.ro [.int .i64])),(3,.ptr 1 1 0 0),(4,.ptr 2 1 0 0),(5,.ptr 3 2 0 0),(6,.ptr 4 1 0 0),(7,.ptr 5 1 0 0),(13,.sl 7 4),(22,.k (.ro [.int .i64])),(23,.k (.int .i64)),(24,.k (.int .i64))],[.none,.box [.k (.ro [.int .i64,.int .i64,.int .i64,.int .i64])],.box [.k (.ro [.int .i64])],.box [.k (.int .i64),.k (.ro [.int .i64,.int .i64,.int .i64,.ro [.int .i64,.int .i64]])],.box [.k (.ro [.int .i64,.int .i64,.int .i64])],.box [.k (.int .i64)],.box [.fn 55 [] [.ptr 1 1 0 0,.ptr 2 1 0 0,.ptr 3 2 0 0,.ptr 4 1 0 0,.ptr 5 1 0 0,.ptr 6 1 0 0]],.row [.int .i64,.int .i64,.int .i64,.int .i64]])] [(.exit 0,[0,4,5,6,7,13],[(73,[(0,.k (.ro [.int .i64])),(4,.ptr 2 1 0 0),(5,.ptr 3 2 0 0),(6,.ptr 4 1 0 0),(7,.ptr 5 1 0 0),(13,.nils)],[.none,.box [.k (.ro [.int .i64,.int .i64,.int .i64,.int .i64])],.box [.k (.ro [.int .i64])],.box [.k (.int .i64),.k (.ro [.int .i64,.int .i64,.int .i64,.ro [.int .i64,.int .i64]])],.box [.k (.ro [.int .i64,.int .i64,.int .i64])],.box [.k (.int .i64)],.box [.fn 55 [] [.ptr 1 1 0 0,.ptr 2 1 0 0,.ptr 3 2 0 0,.ptr 4 1 0 0,.ptr 5 1 0 0,.ptr 6 1 0 0]]]),(73,[(0,.k (.ro [.int .i64])),(4,.ptr 2 1 0 0),(5,.ptr 3 2 0 0),(6,.ptr 4 1 0 0),(7,.ptr 5 1 0 0),(13,.sl 7 4)],[.none,.box [.k (.ro [.int .i64,.int .i64,.int .i64,.int .i64])],.box [.k (.ro [.int .i64])],.box [.k (.int .i64),.k (.ro [.int .i64,.int .i64,.int .i64,.ro [.int .i64,.int .i64]])],.box [.k (.ro [.int .i64,.int .i64,.int .i64])],.box [.k (.int .i64)],.box [.fn 55 [] [.ptr 1 1 0 0,.ptr 2 1 0 0,.ptr 3 2 0 0,.ptr 4 1 0 0,.ptr 5 1 0 0,.ptr 6 1 0 0]],.row [.int .i64,.int .i64,.int .i64,.int .i64]])])]
def l1055_11:LSig:=mkLS [16,42,43,44] [(73,[(16,.mp 7),(42,.nils),(43,.k (.int .i64)),(44,.k (.int .i64))],[.none,.box [.k (.ro [.int .i64,.int .i64,.int .i64,.int .i64])],.box [.k (.ro [.int .i64])],.box [.k (.int .i64),.k (.ro [.int .i64,.int .i64,.int .i64,.ro [.int .i64,.int .i64]])],.box [.k (.ro [.int .i64,.int .i64,.int .i64])],.box [.k (.int .i64)],.box [.fn 55 [] [.ptr 1 1 0 0,.ptr 2 1 0 0,.ptr 3 2 0 0,.ptr 4 1 0 0,.ptr 5 1 0 0,.ptr 6 1 0 0]],.map false [.int .i64] .bool]),(73,[(16,.mp 7),(42,.sl 8 3),(43,.k (.int .i64)),(44,.k (.int .i64))],[.none,.box [.k (.ro [.int .i64,.int .i64,.int .i64,.int .i64])],.box [.k (.ro [.int .i64])],.box [.k (.int .i64),.k (.ro [.int .i64,.int .i64,.int .i64,.ro [.int .i64,.int .i64]])],.box [.k (.ro [.int .i64,.int .i64,.int .i64])],.box [.k (.int .i64)],.box [.fn 55 [] [.ptr 1 1 0 0,.ptr 2 1 0 0,.ptr 3 2 0 0,.ptr 4 1 0 0,.ptr 5 1 0 0,.ptr 6 1 0 0]],.map false [.int .i64] .bool,.row [.int .i64,.int .i64,.int .i64]])] [(.exit 2,[16],[(73,[(16,.mp 7)],[.none,.box [.k (.ro [.int .i64,.int .i64,.int .i64,.int .i64])],.box [.k (.ro [.int .i64])],.box [.k (.int .i64),.k (.ro [.int .i64,.int .i64,.int .i64,.ro [.int .i64,.int .i64]])],.box [.k (.ro [.int .i64,.int .i64,.int .i64])],.box [.k (.int .i64)],.box [.fn 55 [] [.ptr 1 1 0 0,.ptr 2 1 0 0,.ptr 3 2 0 0,.ptr 4 1 0 0,.ptr 5 1 0 0,.ptr 6 1 0 0]],.map false [.int .i64] .bool])])]
def l1055_17:LSig:=mkLS [0,2,3,8,19] [(73,[(0,.k (.ro [.int .i64])),(2,.k (.int .i64)),(3,.ptr 1 1 0 0),(8,.ptr 6 1 0 0),(19,.k (.int .i64))],[.none,.box [.k (.ro [.int .i64,.int .i64,.int .i64,.int .i64])],.box [.k (.ro [.int .i64])],.box [.k (.int .i64),.k (.ro [.int .i64,.int .i64,.int .i64,.ro [.int .i64,.int .i64]])],.box [.k (.ro [.int .i64,.int .i64,.int .i64])],.box [.k (.int .i64)],.box [.fn 55 [] [.ptr 1 1 0 0,.ptr 2 1 0 0,.ptr 3 2 0 0,.ptr 4 1 0 0,.ptr 5 1 0 0,.ptr 6 1 0 0]]])] [(.ret,[12],[(73,[(12,.k .bool)],[.none,.box [.k (.ro [.int .i64,.int .i64,.int .i64,.int .i64])],.box [.k (.ro [.int .i64])],.box [.k (.int .i64),.k (.ro [.int .i64,.int .i64,.int .i64,.ro [.int .i64,.int .i64]])],.box [.k (.ro [.int .i64,.int .i64,.int .i64])],.box [.k (.int .i64)],.box [.fn 55 [] [.ptr 1 1 0 0,.ptr 2 1 0 0,.ptr 3 2 0 0,.ptr 4 1 0 0,.ptr 5 1 0 0,.ptr 6 1 0 0]]])]),(.exit 4,[],[(73,[],[.none,.box [.k (.ro [.int .i64,.int .i64,.int .i64,.int .i64])],.box [.k (.ro [.int .i64])],.box [.k (.int .i64),.k (.ro [.int .i64,.int .i64,.int .i64,.ro [.int .i64,.int .i64]])],.box [.k (.ro [.int .i64,.int .i64,.int .i64])],.box [.k (.int .i64)],.box [.fn 55 [] [.ptr 1 1 0 0,.ptr 2 1 0 0,.ptr 3 2 0 0,.ptr 4 1 0 0,.ptr 5 1 0 0,.ptr 6 1 0 0]]])])]
def s55:SigW:=⟨[.k (.ro [.int .i64]),.k (.int .i64),.k (.int .i64),.ptr 0 1 0 0,.ptr 1 1 0 0,.ptr 2 2 0 0,.ptr 3 1 0 0,.ptr 4 1 0 0,.ptr 5 1 0 0],[.box [.k (.ro [.int .i64,.int .i64,.int .i64,.int .i64])],.box [.k (.ro [.int .i64])],.box [.k (.int .i64),.k (.ro [.int .i64,.int .i64,.int .i64,.ro [.int .i64,.int .i64]])],.box [.k (.ro [.int .i64,.int .i64,.int .i64])],.box [.k (.int .i64)],.box [.fn 55 [] [.ptr 0 1 0 0,.ptr 1 1 0 0,.ptr 2 2 0 0,.ptr 3 1 0 0,.ptr 4 1 0 0,.ptr 5 1 0 0]]],[(.k .bool,[.box [.k (.ro [.int .i64,.int .i64,.int .i64,.int .i64])],.box [.k (.ro [.int .i64])],.box [.k (.int .i64),.k (.ro [.int .i64,.int .i64,.int .i64,.ro [.int .i64,.int .i64]])],.box [.k (.ro [.int .i64,.int .i64,.int .i64])],.box [.k (.int .i64)],.box [.fn 55 [] [.ptr 0 1 0 0,.ptr 1 1 0 0,.ptr 2 2 0 0,.ptr 3 1 0 0,.ptr 4 1 0 0,.ptr 5 1 0 0]]])]⟩
def l55_4:LSig:=mkLS [0,3,4,5,6,7,13,22,23,24] [(73,[(0,.k (.ro [.int .i64])),(3,.ptr 0 1 0 0),(4,.ptr 1 1 0 0),(5,.ptr 2 2 0 0),(6,.ptr 3 1 0 0),(7,.ptr 4 1 0 0),(13,.nils),(22,.k (.ro [.int .i64])),(23,.k (.int .i64)),(24,.k (.int .i64))],[.box [.k (.ro [.int .i64,.int .i64,.int .i64,.int .i64])],.box [.k (.ro [.int .i64])],.box [.k (.int .i64),.k (.ro [.int .i64,.int .i64,.int .i64,.ro [.int .i64,.int .i64]])],.box [.k (.ro [.int .i64,.int .i64,.int .i64])],.box [.k (.int .i64)],.box [.fn 55 [] [.ptr 0 1 0 0,.ptr 1 1 0 0,.ptr 2 2 0 0,.ptr 3 1 0 0,.ptr 4 1 0 0,.ptr 5 1 0 0]]]),(73,[(0,.k (.ro [.int .i64])),(3,.ptr 0 1 0 0),(4,.ptr 1 1 0 0),(5,.ptr 2 2 0 0),(6,.ptr 3 1 0 0),(7,.ptr 4 1 0 0),(13,.sl 6 4),(22,.k (.ro [.int .i64])),(23,.k (.int .i64)),(24,.k (.int .i64))],[.box [.k (.ro [.int .i64,.int .i64,.int .i64,.int .i64])],.box [.k (.ro [.int .i64])],.box [.k (.int .i64),.k (.ro [.int .i64,.int .i64,.int .i64,.ro [.int .i64,.int .i64]])],.box [.k (.ro [.int .i64,.int .i64,.int .i64])],.box [.k (.int .i64)],.box [.fn 55 [] [.ptr 0 1 0 0,.ptr 1 1 0 0,.ptr 2 2 0 0,.ptr 3 1 0 0,.ptr 4 1 0 0,.ptr 5 1 0 0]],.row [.int .i64,.int .i64,.int .i64,.int .i64]])] [(.exit 0,[0,4,5,6,7,13],[(73,[(0,.k (.ro [.int .i64])),(4,.ptr 1 1 0 0),(5,.ptr 2 2 0 0),(6,.ptr 3 1 0 0),(7,.ptr 4 1 0 0),(13,.nils)],[.box [.k (.ro [.int .i64,.int .i64,.int .i64,.int .i64])],.box [.k (.ro [.int .i64])],.box [.k (.int .i64),.k (.ro [.int .i64,.int .i64,.int .i64,.ro [.int .i64,.int .i64]])],.box [.k (.ro [.int .i64,.int .i64,.int .i64])],.box [.k (.int .i64)],.box [.fn 55 [] [.ptr 0 1 0 0,.ptr 1 1 0 0,.ptr 2 2 0 0,.ptr 3 1 0 0,.ptr 4 1 0 0,.ptr 5 1 0 0]]]),(73,[(0,.k (.ro [.int .i64])),(4,.ptr 1 1 0 0),(5,.ptr 2 2 0 0),(6,.ptr 3 1 0 0),(7,.ptr 4 1 0 0),(13,.sl 6 4)],[.box [.k (.ro [.int .i64,.int .i64,.int .i64,.int .i64])],.box [.k (.ro [.int .i64])],.box [.k (.int .i64),.k (.ro [.int .i64,.int .i64,.int .i64,.ro [.int .i64,.int .i64]])],.box [.k (.ro [.int .i64,.int .i64,.int .i64])],.box [.k (.int .i64)],.box [.fn 55 [] [.ptr 0 1 0 0,.ptr 1 1 0 0,.ptr 2 2 0 0,.ptr 3 1 0 0,.ptr 4 1 0 0,.ptr 5 1 0 0]],.row [.int .i64,.int .i64,.int .i64,.int .i64]])])]
def l55_11:LSig:=mkLS [16,42,43,44] [(73,[(16,.mp 6),(42,.nils),(43,.k (.int .i64)),(44,.k (.int .i64))],[.box [.k (.ro [.int .i64,.int .i64,.int .i64,.int .i64])],.box [.k (.ro [.int .i64])],.box [.k (.int .i64),.k (.ro [.int .i64,.int .i64,.int .i64,.ro [.int .i64,.int .i64]])],.box [.k (.ro [.int .i64,.int .i64,.int .i64])],.box [.k (.int .i64)],.box [.fn 55 [] [.ptr 0 1 0 0,.ptr 1 1 0 0,.ptr 2 2 0 0,.ptr 3 1 0 0,.ptr 4 1 0 0,.ptr 5 1 0 0]],.map false [.int .i64] .bool]),(73,[(16,.mp 6),(42,.sl 7 3),(43,.k (.int .i64)),(44,.k (.int .i64))],[.box [.k (.ro [.int .i64,.int .i64,.int .i64,.int .i64])],.box [.k (.ro [.int .i64])],.box [.k (.int .i64),.k (.ro [.int .i64,.int .i64,.int .i64,.ro [.int .i64,.int .i64]])],.box [.k (.ro [.int .i64,.int .i64,.int .i64])],.box [.k (.int .i64)],.box [.fn 55 [] [.ptr 0 1 0 0,.ptr 1 1 0 0,.ptr 2 2 0 0,.ptr 3 1 0 0,.ptr 4 1 0 0,.ptr 5 1 0 0]],.map false [.int .i64] .bool,.row [.int .i64,.int .i64,.int .i64]])] [(.exit 2,[16],[(73,[(16,.mp 6)],[.box [.k (.ro [.int .i64,.int .i64,.int .i64,.int .i64])],.box [.k (.ro [.int .i64])],.box [.k (.int .i64),.k (.ro [.int .i64,.int .i64,.int .i64,.ro [.int .i64,.int .i64]])],.box [.k (.ro [.int .i64,.int .i64,.int .i64])],.box [.k (.int .i64)],.box [.fn 55 [] [.ptr 0 1 0 0,.ptr 1 1 0 0,.ptr 2 2 0 0,.ptr 3 1 0 0,.ptr 4 1 0 0,.ptr 5 1 0 0]],.map false [.int .i64] .bool])])]
def l55_17:LSig:=mkLS [0,2,3,8,19] [(73,[(0,.k (.ro [.int .i64])),(2,.k (.int .i64)),(3,.ptr 0 1 0 0),(8,.ptr 5 1 0 0),(19,.k (.int .i64))],[.box [.k (.ro [.int .i64,.int .i64,.int .i64,.int .i64])],.box [.k (.ro [.int .i64])],.box [.k (.int .i64),.k (.ro [.int .i64,.int .i64,.int .i64,.ro [.int .i64,.int .i64]])],.box [.k (.ro [.int .i64,.int .i64,.int .i64])],.box [.k (.int .i64)],.box [.fn 55 [] [.ptr 0 1 0 0,.ptr 1 1 0 0,.ptr 2 2 0 0,.ptr 3 1 0 0,.ptr 4 1 0 0,.ptr 5 1 0 0]]])] [(.ret,[12],[(73,[(12,.k .bool)],[.box [.k (.ro [.int .i64,.int .i64,.int .i64,.int .i64])],.box [.k (.ro [.int .i64])],.box [.k (.int .i64),.k (.ro [.int .i64,.int .i64,.int .i64,.ro [.int .i64,.int .i64]])],.box [.k (.ro [.int .i64,.int .i64,.int .i64])],.box [.k (.int .i64)],.box [.fn 55 [] [.ptr 0 1 0 0,.ptr 1 1 0 0,.ptr 2 2 0 0,.ptr 3 1 0 0,.ptr 4 1 0 0,.ptr 5 1 0 0]]])]),(.exit 4,[],[(73,[],[.box [.k (.ro [.int .i64,.int .i64,.int .i64,.int .i64])],.box [.k (.ro [.int .i64])],.box [.k (.int .i64),.k (.ro [.int .i64,.int .i64,.int .i64,.ro [.int .i64,.int .i64]])],.box [.k (.ro [.int .i64,.int .i64,.int .i64])],.box [.k (.int .i64)],.box [.fn 55 [] [.ptr 0 1 0 0,.ptr 1 1 0 0,.ptr 2 2 0 0,.ptr 3 1 0 0,.ptr 4 1 0 0,.ptr 5 1 0 0]]])])]
noncomputable section
def chosOk (v cs:List (List D)):Prop:=cs.length ≤ 12 ∧ ∀ j,j < cs.length → 0 ≤ ix (cs.getD j []) 0 ∧ ix (cs.getD j []) 0 < v.length
def covT (n:Int) (r v z:List (List D)) (h:Int) (cs:List (List D)):Bool:=(gapsA n r (teamL v cs) z h).isEmpty
def candT (v cs:List (List D)) (m i:Nat):List (List (List D)):=(chF v.length m i).map fun c=>cs ++ lx c 0
def restT (v cs:List (List D)) (m k:Nat):List (List (List D)):=(chW (chF v.length (m - 1)) k (v.length - k)).map fun c=>cs ++ lx c 0
def findT (n:Int) (r v z:List (List D)) (h:Int) (l:List (List (List D))):Option (List (List D)):=l.find? (covT n r v z h)
def fndT (n:Int) (r v z:List (List D)) (h:Int) (f:List (List D)) (l:List (List (List D))):List (List D):=(findT n r v z h l).getD (l.getLastD f)
def openF (l g:List (List D)):List (List D):=g.foldl (fun l c=>msetD [.int .i64] [.i (ix c 0)] (.b true) l) l
def choP (q:Nat) (n:Int) (r v z:List (List D)) (h:Int) (cs:List (List D)) (i m:Int):Prop:=
 okG n r v z h ∧ v.length ≤ 12 ∧ chosOk v cs ∧ (0 ≤ i ∧ i ≤ v.length) ∧ (0 ≤ m ∧ m < q) ∧ cs.length + m ≤ 12
def G55 (q:Nat) (ds:List D):T (List D):=match ds with
 | [cs, i,m,v,f,n,r,z,h]=>.need (yes (choP q n.I r.L v.L z.L h.I cs.L i.I m.I))
     (.leaf [.b (findT n.I r.L v.L z.L h.I (candT v.L cs.L m.I.toNat i.I.toNat)).isSome,.l v.L,.l (fndT n.I r.L v.L z.L h.I f.L (candT v.L cs.L m.I.toNat i.I.toNat)),.i n.I,.l r.L,.l z.L,.i h.I])
 | _=>.fail
def G1055 (q:Nat) (ds:List D):T (List D):=match ds with
 | [s, i,m,cs,v,f,n,r,z,h]=>.need (yes (s.I = cs.L.length ∧ choP q n.I r.L v.L z.L h.I cs.L i.I m.I))
     (.leaf [.b (findT n.I r.L v.L z.L h.I (candT v.L cs.L m.I.toNat i.I.toNat)).isSome,.l v.L,.l (fndT n.I r.L v.L z.L h.I f.L (candT v.L cs.L m.I.toNat i.I.toNat)),.i n.I,.l r.L,.l z.L,.i h.I])
 | _=>.fail
def G55_4 (_:Nat) (ds:List D):T (Ex × List D):=match ds with
 | [y, cs,c2,m,i,v,f,n,r,z,h]=>.need (yes (y.I = 0 ∧ c2.L = cs.L ∧ m.I = cs.L.length ∧ chosOk v.L cs.L ∧ 0 ≤ i.I ∧ i.I ≤ m.I))
     (.ite (cs.L.drop i.I.toNat).isEmpty (.leaf (.exit 0,[.i 0,.l cs.L,.l v.L,.l f.L,.i n.I,.l r.L,.l z.L,.i h.I]))
      (.leaf (.exit 0,[.i 1,.l cs.L,.i (teamL v.L (cs.L.drop i.I.toNat)).length,.l v.L,.l f.L,.i n.I,.l r.L,.l z.L,.i h.I,.l (teamL v.L (cs.L.drop i.I.toNat))])))
 | [y, cs,t,c2,m,i,v,f,n,r,z,h,o]=>.need (yes (y.I = 1 ∧ c2.L = cs.L ∧ m.I = cs.L.length ∧ chosOk v.L cs.L ∧ (0 ≤ i.I ∧ i.I ≤ m.I) ∧ t.I = o.L.length ∧ t.I ≤ i.I))
     (.leaf (.exit 0,[.i 1,.l cs.L,.i (o.L ++ teamL v.L (cs.L.drop i.I.toNat)).length,.l v.L,.l f.L,.i n.I,.l r.L,.l z.L,.i h.I,.l (o.L ++ teamL v.L (cs.L.drop i.I.toNat))]))
 | _=>.fail
def G55_11 (_:Nat) (ds:List D):T (Ex × List D):=match ds with
 | [y,m,i,v,f,n,r,z,h,mp]=>.need (yes (y.I = 0 ∧ m.I ≤ i.I)) (.leaf (.exit 2,[.l v.L,.l f.L,.i n.I,.l r.L,.l z.L,.i h.I,.l mp.L]))
 | [y,s,m,i,v,f,n,r,z,h,mp,g]=>.need (yes (y.I = 1 ∧ s.I = g.L.length ∧ m.I = s.I ∧ s.I ≤ 1000000000 ∧ 0 ≤ i.I ∧ i.I ≤ m.I)) (.leaf (.exit 2,[.l v.L,.l f.L,.i n.I,.l r.L,.l z.L,.i h.I,.l (openF mp.L (g.L.drop i.I.toNat))]))
 | _=>.fail
def G55_17 (q:Nat) (ds:List D):T (Ex × List D):=match ds with
 | [cs, m,k,v,f,n,r,z,h]=>.need (yes (choP (q + 1) n.I r.L v.L z.L h.I cs.L k.I m.I ∧ 1 ≤ m.I))
     (.ite (findT n.I r.L v.L z.L h.I (restT v.L cs.L m.I.toNat k.I.toNat)).isSome (.leaf (.ret,[.b true,.l v.L,.l (fndT n.I r.L v.L z.L h.I f.L (restT v.L cs.L m.I.toNat k.I.toNat)),.i n.I,.l r.L,.l z.L,.i h.I]))
      (.leaf (.exit 4,[.l v.L,.l (fndT n.I r.L v.L z.L h.I f.L (restT v.L cs.L m.I.toNat k.I.toNat)),.i n.I,.l r.L,.l z.L,.i h.I])))
 | _=>.fail
end
noncomputable def sp78:SpL:=[(45,mkF s45 G45)]
noncomputable def lp78:LpL:=[]
noncomputable def sw78:SwL:=[]
noncomputable def tab78:Tab:=mkTab sp78 lp78 sw78
noncomputable def sp77:SpL:=[(45,mkF s45 G45),(78,mkF s78 G78)]
noncomputable def lp77:LpL:=[]
noncomputable def sw77:SwL:=[]
noncomputable def tab77:Tab:=mkTab sp77 lp77 sw77
noncomputable def sp80:SpL:=[(45,mkF s45 G45),(78,mkF s78 G78)]
noncomputable def lp80:LpL:=[]
noncomputable def sw80:SwL:=[]
noncomputable def tab80:Tab:=mkTab sp80 lp80 sw80
noncomputable def sp94:SpL:=[(77,mkF s77 G77)]
noncomputable def lp94:LpL:=[(2,mkL l94_2 G94_2)]
noncomputable def sw94:SwL:=[]
noncomputable def tab94:Tab:=mkTab sp94 lp94 sw94
noncomputable def sp95:SpL:=[(80,mkF s80 G80)]
noncomputable def lp95:LpL:=[(2,mkL l95_2 G95_2)]
noncomputable def sw95:SwL:=[]
noncomputable def tab95:Tab:=mkTab sp95 lp95 sw95
noncomputable def sp76:SpL:=[(94,mkF s94 G94),(77,mkF s77 G77)]
noncomputable def lp76:LpL:=[]
noncomputable def sw76:SwL:=[]
noncomputable def tab76:Tab:=mkTab sp76 lp76 sw76
noncomputable def sp79:SpL:=[(95,mkF s95 G95),(80,mkF s80 G80)]
noncomputable def lp79:LpL:=[]
noncomputable def sw79:SwL:=[]
noncomputable def tab79:Tab:=mkTab sp79 lp79 sw79
noncomputable def sp52:SpL:=[(18,mkF s18 G18),(45,mkF s45 G45),(76,mkF s76 G76),(79,mkF s79 G79),(77,mkF s77 G77),(80,mkF s80 G80)]
noncomputable def lp52:LpL:=[]
noncomputable def sw52:SwL:=[]
noncomputable def tab52:Tab:=mkTab sp52 lp52 sw52
noncomputable def sp28:SpL:=[(47,mkF s47 G47)]
noncomputable def lp28:LpL:=[(2,mkL l28_2 G28_2)]
noncomputable def sw28:SwL:=[]
noncomputable def tab28:Tab:=mkTab sp28 lp28 sw28
noncomputable def sp29:SpL:=[(47,mkF s47 G47)]
noncomputable def lp29:LpL:=[(2,mkL l29_2 G29_2)]
noncomputable def sw29:SwL:=[]
noncomputable def tab29:Tab:=mkTab sp29 lp29 sw29
end Go.Proofs.Ytgmefblkmidglaa
